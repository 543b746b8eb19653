/- What is proved here: the walk of laws.FnFindTrue. -/
import Derived.Test.YtkiebajggombiaaDraw6
import Derived.Test.YtkiebajggombiaaFsM
import Derived.Test.YtkiebajggombiaaLaws1
import Derived.Deep.RegionHeld3
set_option linter.unusedVariables false
set_option linter.unusedSimpArgs false
namespace Go.Proofs.Ytkiebajggombiaa
open Go.RowKit

theorem IsI.drew {w : World} {B : Nat} {v : Value} {xs : List Int} (h : IsI w B v xs) : IsI w.drew B v xs := h
theorem cell_b {w w' : World} {B b o : Nat} {v : Value} (h : w.cell? ⟨b, o, none⟩ = some v) (hb : Below B w w') (hB : w.heap.size ≤ B) : w'.cell? ⟨b, o, none⟩ = some v :=
  (hb.cell (p := ⟨b, o, none⟩) (Nat.lt_of_lt_of_le (World.block_lt_of_cell? _ _ h) hB)).trans h
theorem cell_w {w w' : World} {b o : Nat} {v : Value} (h : w.cell? ⟨b, o, none⟩ = some v) (hb : Below w.drew.heap.size w.drew w') : w'.cell? ⟨b, o, none⟩ = some v :=
  (hb.cell (p := ⟨b, o, none⟩) (World.block_lt_of_cell? _ _ h)).trans h
theorem IsI.belowD {w w' : World} {B : Nat} {v : Value} {xs : List Int} (h : IsI w B v xs) (hb : Below w.drew.heap.size w.drew w') (hB : B ≤ w.heap.size) : IsI w' w'.heap.size v xs :=
  (h.drew.below hb hB).up (Nat.le_trans hB hb.size)
theorem below_drew {w0 w w' : World} {B : Nat} (h : Below B w0 w) (hb : Below w.drew.heap.size w.drew w') (hB : B ≤ w.heap.size) : Below B w0 w' := h.drew.trans (hb.mono hB)
theorem ct_code {xs : List Int} {d : Int} : ctOk xs d = decide ((feF xs d).2.2 = 0 ∨ (feF xs d).2.2 = 1) := rfl

theorem take_at {P : Program} {ops : Array Oper} {Q : Exit → Act → World → Prop} {md : Region.Mode} {S : World → Prop} {i : Nat} {oi : Oper} {d : Option Tmp} {v : Value} {fuel : Nat} {listed : Array Bool} {a : Act} {w : World} (hi : ops[i]? = some oi) (hd : oi.dst = d)
    (hs : Region.noSelect ops = true) (hf : Region.free md ops listed i = true) (hr : (Region.ready md ops listed).contains i = true)
    (hQ : ∀ c a w, Q (.panic c) (a.put d v) w → Q (.panic c) a w) (hy : YieldsIf P ops S oi v a) (hS : S w)
    (h : wpAnyH P md ops Q S fuel (listed.setIfInBounds i true) (a.put d v) w) : wpAnyH P md ops Q S (fuel + 1) listed a w := by
  subst hd
  exact wpAnyH_take hi hs hf hr hQ hy hS h
/-- A goal that has been shown is left standing in another form, for the region's walk to go on from. -/
theorem left_standing {K : Act → World → Prop} {a : Act} {w : World} {p : Prop} {v : Value} (h1 : K a w) (h2 : p → K (a.put (some 111) v) w) : K a w := h1
set_option maxRecDepth 100000 in
set_option maxHeartbeats 3200000 in
theorem w_FnFindTrue (w : World) (v : Value) (nb : Nat) (hv : IsBy w w.heap.size v nb) :
    Calls Try.prog 10 #[v] w fun e w' => e = .returned (.bool true) ∧ Below w.heap.size w w' := by
  obtain ⟨a, cap, hva, hm, hc⟩ := id hv
  subst hva
  unfold maxLen at hm
  clear hc
  by_cases hbig : 1048576 < nb
  · clear hv
    go_enter Try.func10, Try.ntmps10
    go_wp2_with fail
    go_ret
    exact ⟨rfl, Below.refl _ _⟩
  · go_enter Try.func10, Try.ntmps10
    go_wp2_with fail
    refine (c_DrawFindError _ _ _ hv).mono ?_
    rintro e w1 ⟨vx, xs, d, rfl, hd, hx, b⟩
    have s1 := b.size
    clear hv
    go_wp2_with fail
    refine (c_iFindError _ _ xs hx d).mono ?_
    rintro e w3 ⟨rfl, c⟩
    have s3 := c.size
    replace hx := hx.below c (by omega)
    replace b := b.trans (c.mono (by omega))
    clear c
    go_wp2_with fail
    refine (c_sFindError _ _ xs (hx.up (by omega)) d).mono ?_
    rintro e w4 ⟨rfl, c⟩
    have s4 := c.size
    replace hx := hx.below c (by omega)
    replace b := b.trans (c.mono (by omega))
    clear c
    have hways := fe_ways xs d
    have HCT : Hid (ctF xs d = if (feF xs d).2.2 = 0 then xs else if (feF xs d).2.2 = 1 then xs.set (feF xs d).1.toNat (el xs (feF xs d).1.toNat - (feF xs d).2.1) else []) := rfl
    have HCO := hid (ct_code (xs := xs) (d := d))
    have t1 : ((feF xs d).1 != (feF xs d).1) = false := by simp
    have t2 : ((feF xs d).2.1 != (feF xs d).2.1) = false := by simp
    have t3 : ((feF xs d).2.2 != (feF xs d).2.2) = false := by simp
    clear hd
    rcases hways with ⟨h, hno⟩ | ⟨hok, ⟨h, hz⟩ | ⟨h, hz, -⟩ | ⟨p, hp, h, hz, -, hex⟩⟩
    · have HC1 := hid (show ctF xs d = [] ∧ ctOk xs d = false by rw [HCT.out, HCO.out, h]; exact ⟨rfl, rfl⟩)
      rw [h] at t1 t2 t3 ⊢
      clear h hno
      go_wp2_with fail
      refine (c_iCorrectTable _ _ xs (hx.up (by omega)) d).mono ?_
      rintro e w5 ⟨v6, rfl, r6, c⟩
      have s5 := c.size
      replace hx := hx.below c (by omega)
      replace b := b.trans (c.mono (by omega))
      clear c
      rw [HC1.out.2]
      rw [HC1.out.1] at r6
      go_wp2_with fail
      refine (c_sCorrectTable _ _ xs (hx.up (by omega)) d).mono ?_
      rintro e w6 ⟨v7, rfl, r7, c⟩
      have s6 := c.size
      replace hx := hx.below c (by omega)
      replace b := b.trans (c.mono (by omega))
      replace r6 := r6.below c (by omega)
      clear c
      rw [HC1.out.2]
      rw [HC1.out.1] at r7
      go_wp2_with fail
      refine (deSmC _ _ _ _ _ _ r6.isI r7.isI).mono ?_
      rintro e w7 ⟨rfl, c⟩
      have s7 := c.size
      replace hx := hx.chg c (by omega) (by omega)
      replace b := b.trans (c.below (by omega) (by omega))
      replace r6 := r6.keep c (by omega)
      replace r7 := r7.keep c (by omega)
      clear c
      go_wp2_with fail
      go_ret
      exact ⟨rfl, b⟩
    · have HC1 := hid (show ctF xs d = xs ∧ ctOk xs d = true by rw [HCT.out, HCO.out, h]; exact ⟨rfl, rfl⟩)
      have HCL := hid (show cleanF xs d = true by
        obtain ⟨hT, hd, _⟩ := feOk_iff.1 hok
        unfold cleanF; rw [hT, inB_yes hd.1 hd.2, hz]; rfl)
      rw [h] at t1 t2 t3 ⊢
      clear h hz hok
      go_wp2_with fail
      refine (c_iCorrectTable _ _ xs (hx.up (by omega)) d).mono ?_
      rintro e w8 ⟨v6, rfl, r6, c⟩
      have s8 := c.size
      replace hx := hx.below c (by omega)
      replace b := b.trans (c.mono (by omega))
      clear c
      rw [HC1.out.2]
      rw [HC1.out.1] at r6
      go_wp2_with fail
      refine (c_sCorrectTable _ _ xs (hx.up (by omega)) d).mono ?_
      rintro e w9 ⟨v7, rfl, r7, c⟩
      have s9 := c.size
      replace hx := hx.below c (by omega)
      replace b := b.trans (c.mono (by omega))
      replace r6 := r6.below c (by omega)
      clear c
      rw [HC1.out.2]
      rw [HC1.out.1] at r7
      go_wp2_with fail
      refine (deSmC _ _ _ _ _ _ r6.isI r7.isI).mono ?_
      rintro e w10 ⟨rfl, c⟩
      have s10 := c.size
      replace hx := hx.chg c (by omega) (by omega)
      replace b := b.trans (c.below (by omega) (by omega))
      replace r6 := r6.keep c (by omega)
      replace r7 := r7.keep c (by omega)
      clear c
      go_wp2_with fail
      refine (c_iCleanTable _ _ xs (hx.up (by omega)) d).mono ?_
      rw [HCL.out]
      rintro e wC ⟨rfl, c⟩
      have sC := c.size
      replace hx := hx.below c (by omega)
      replace b := b.trans (c.mono (by omega))
      replace r6 := r6.below c (by omega)
      replace r7 := r7.below c (by omega)
      clear c
      go_wp2_with fail
      refine (deSmC _ _ _ _ _ _ r6.isI hx).mono ?_
      rintro e w12 ⟨rfl, c⟩
      have s12 := c.size
      replace hx := hx.chg c (by omega) (by omega)
      replace b := b.trans (c.below (by omega) (by omega))
      replace r6 := r6.keep c (by omega)
      replace r7 := r7.keep c (by omega)
      clear c
      go_wp2_with fail
      go_ret
      exact ⟨rfl, b⟩
    · have HC1 := hid (show ctF xs d = [] ∧ ctOk xs d = false by rw [HCT.out, HCO.out, h]; exact ⟨rfl, rfl⟩)
      have HCL := hid (show cleanF xs d = false by unfold cleanF; rw [hz, Bool.and_false, Bool.and_false])
      rw [h] at t1 t2 t3 ⊢
      clear h hz hok
      go_wp2_with fail
      refine (c_iCorrectTable _ _ xs (hx.up (by omega)) d).mono ?_
      rintro e w13 ⟨v6, rfl, r6, c⟩
      have s13 := c.size
      replace hx := hx.below c (by omega)
      replace b := b.trans (c.mono (by omega))
      clear c
      rw [HC1.out.2]
      rw [HC1.out.1] at r6
      go_wp2_with fail
      refine (c_sCorrectTable _ _ xs (hx.up (by omega)) d).mono ?_
      rintro e w14 ⟨v7, rfl, r7, c⟩
      have s14 := c.size
      replace hx := hx.below c (by omega)
      replace b := b.trans (c.mono (by omega))
      replace r6 := r6.below c (by omega)
      clear c
      rw [HC1.out.2]
      rw [HC1.out.1] at r7
      go_wp2_with fail
      refine (deSmC _ _ _ _ _ _ r6.isI r7.isI).mono ?_
      rintro e w15 ⟨rfl, c⟩
      have s15 := c.size
      replace hx := hx.chg c (by omega) (by omega)
      replace b := b.trans (c.below (by omega) (by omega))
      replace r6 := r6.keep c (by omega)
      replace r7 := r7.keep c (by omega)
      clear c
      go_wp2_with fail
      refine (c_iCleanTable _ _ xs (hx.up (by omega)) d).mono ?_
      rw [HCL.out]
      rintro e wC ⟨rfl, c⟩
      have sC := c.size
      replace hx := hx.below c (by omega)
      replace b := b.trans (c.mono (by omega))
      replace r6 := r6.below c (by omega)
      replace r7 := r7.below c (by omega)
      clear c
      go_wp2_with fail
      go_ret
      exact ⟨rfl, b⟩
    · have HC1 := hid (show ctF xs d = xs.set p (el xs p - gsF (dN xs (d.toNat + 1)) (d.toNat + 1) p) ∧ ctOk xs d = true by rw [HCT.out, HCO.out, h]; exact ⟨rfl, rfl⟩)
      obtain ⟨hg0, hcl, hcl2⟩ := find_true hp hok hz hex
      have hgb := gs_bd (o := d.toNat + 1) (a := p) (dN_bd8 (feOk_iff.1 hok).1 (show d.toNat + 1 ≤ 7 by have := (feOk_iff.1 hok).2.1; omega)) (by rw [dN_len]; have := (feOk_iff.1 hok).2; omega) (by have := (feOk_iff.1 hok).2.1; omega) (by omega)
      have hxb := TB_Bd (feOk_iff.1 hok).1 p hp
      obtain ⟨g0, g1⟩ := hgb
      obtain ⟨x0, x1⟩ := hxb
      have HCL := hid hcl
      have HCL2 := hid hcl2
      rw [h] at t1 t2 t3 ⊢
      clear h hz hok hex hcl hcl2
      generalize gsF (dN xs (d.toNat + 1)) (d.toNat + 1) p = G at *
      have t4 : (G != 0) = true := by simpa using hg0
      clear hg0
      go_wp2_with fail
      refine (c_iCorrectTable _ _ xs (hx.up (by omega)) d).mono ?_
      rintro e w17 ⟨v6, rfl, r6, c⟩
      have s17 := c.size
      replace hx := hx.below c (by omega)
      replace b := b.trans (c.mono (by omega))
      clear c
      rw [HC1.out.2]
      rw [HC1.out.1] at r6
      go_wp2_with fail
      refine (c_sCorrectTable _ _ xs (hx.up (by omega)) d).mono ?_
      rintro e w18 ⟨v7, rfl, r7, c⟩
      have s18 := c.size
      replace hx := hx.below c (by omega)
      replace b := b.trans (c.mono (by omega))
      replace r6 := r6.below c (by omega)
      clear c
      rw [HC1.out.2]
      rw [HC1.out.1] at r7
      go_wp2_with fail
      refine (deSmC _ _ _ _ _ _ r6.isI r7.isI).mono ?_
      rintro e wD ⟨rfl, c⟩
      have sD := c.size
      replace hx := hx.chg c (by omega) (by omega)
      replace b := b.trans (c.below (by omega) (by omega))
      replace r6 := r6.keep c (by omega)
      replace r7 := r7.keep c (by omega)
      clear c
      have bD := b.size
      have i6 := r6.isI
      have HL6 := hid (show (xs.set p (el xs p - G)).length = xs.length by simp)
      obtain ⟨gg, cap6, rfl, hh1, hh2, hh3, hc6, -⟩ := r6.split (by rw [HL6.out]; omega)
      have c6 := hc6 p (by rw [HL6.out]; exact hp)
      rw [el_set_same hp] at c6
      rw [HL6.out] at i6 ⊢
      have hx0 := hx
      obtain ⟨ax, capx, rfl, hmx, -, hcx⟩ := hx
      obtain ⟨bx, ox, rfl, hbx, hcellx⟩ := hcx p hp
      have cx := hcellx p hp
      have k1 : IntKind.i64.wrap (el xs p - G) = el xs p - G := IntWalk.i64_in _ (by omega)
      have k2 : (el xs p - G == el xs p - G) = true := by simp
      have k3 : 0 ≤ (p : Int) := by omega
      have k4 : (p : Int) < xs.length := by omega
      generalize hys : xs.set p (el xs p - G) = ys at *
      clear hcx hcellx hc6 r6 r7 hmx
      have hxd : IsI wD.drew wD.drew.heap.size (.slice (some ⟨bx, ox, none⟩) xs.length capx) xs := hx0.drew.up (show _ ≤ wD.heap.size by omega)
      have hcd := (c_iCleanTable wD.drew _ xs hxd d)
      rw [HCL.out] at hcd
      by_cases hT : TB ys = true
      · have HCY := hid (HCL2.out hT)
        have HT := hid hT
        clear hT
        have HCD := hid hcd
        clear hcd hxd
        go_wp2_with fail
        go_region_held3 (fun w' => w'.cell? ⟨gg, p, none⟩ = some (.int .i64 (el xs p - G)) ∧ w'.cell? ⟨bx, ox + p, none⟩ = some (.int .i64 (el xs p)))
          (first | exact ⟨c11, cx11⟩ | exact ⟨c9, cx9⟩ | exact ⟨c6, cx⟩ | go_keep)
          ((first | (go_at_call 31; (with_reducible refine HCD.out.mono ?_); rintro e w9 ⟨rfl, b9⟩; have c9 := cell_w c6 b9; have cx9 := cell_w cx b9; have i9 := i6.belowD b9 (by omega); have bb9 := below_drew b b9 (by omega)) | (go_at_call 39; (with_reducible refine (c_iTableValid _ ys _ _ i9).mono ?_); rw [HT.out]; rintro e w10 ⟨rfl, rfl⟩) | (go_at_call 31; (with_reducible refine (c_iCleanTable _ _ ys i9 d).mono ?_); rw [HCY.out]; rintro e w11 ⟨rfl, b11⟩; have c11 := cell_b c9 b11 (Nat.le_refl _); have cx11 := cell_b cx9 b11 (Nat.le_refl _); have bb11 := bb9.trans (b11.mono (bb9.size)))))
        go_wp2
        go_ret
        exact ⟨rfl, bb11⟩
      · have hT' : TB ys = false := by simpa using hT
        have HT := hid hT'
        clear hT hT'
        have HCD := hid hcd
        clear hcd hxd
        go_wp2_with fail
        go_region_held3 (fun w' => w'.cell? ⟨gg, p, none⟩ = some (.int .i64 (el xs p - G)) ∧ w'.cell? ⟨bx, ox + p, none⟩ = some (.int .i64 (el xs p)))
          (first | exact ⟨c11, cx11⟩ | exact ⟨c9, cx9⟩ | exact ⟨c6, cx⟩ | go_keep)
          ((first | (go_at_call 31; (with_reducible refine HCD.out.mono ?_); rintro e w9 ⟨rfl, b9⟩; have c9 := cell_w c6 b9; have cx9 := cell_w cx b9; have i9 := i6.belowD b9 (by omega); have bb9 := below_drew b b9 (by omega)) | (go_at_call 31; (with_reducible refine (c_iCleanTable _ _ ys i9 d).mono ?_); rw [HCL2.out hF.out]; rintro e w11 ⟨rfl, b11⟩; have c11 := cell_b c9 b11 (Nat.le_refl _); have cx11 := cell_b cx9 b11 (Nat.le_refl _); have bb11 := bb9.trans (b11.mono (bb9.size))) | (go_at_call 39; (with_reducible refine (c_iTableValid _ ys _ _ i9).mono ?_); rw [HT.out]; rintro e w10 ⟨rfl, rfl⟩; refine left_standing (p := Hid (TB ys = true)) (v := .bool true) ?_ ?_; (rename_i hKK; refine (Shut.out hKK) _ _ ⟨c9, cx9⟩ (fun hS => ?_); (try simp only [Act.put, List.setIfInBounds_toArray, List.set_cons_zero, List.set_cons_succ]); refine take_at (i := 24) (d := some 112) (v := .bool true) rfl rfl (by kernel_rfl) (by kernel_rfl) (by kernel_rfl) ?_ (Or.inl ⟨by rfl, ?_⟩) (by assumption) ?_; (exact fun _ _ _ h => h); (intro w hSw; (try dsimp only at hSw); go_simp); (try simp only [Act.put, List.setIfInBounds_toArray, List.set_cons_zero, List.set_cons_succ]); refine take_at (i := 25) (d := some 113) (v := .bool true) rfl rfl (by kernel_rfl) (by kernel_rfl) (by kernel_rfl) ?_ (Or.inl ⟨by rfl, ?_⟩) (by assumption) ?_; (exact fun _ _ _ h => h); (intro w hSw; (try dsimp only at hSw); go_simp); (try simp only [Act.put, List.setIfInBounds_toArray, List.set_cons_zero, List.set_cons_succ]); refine take_at (i := 26) (d := some 114) (v := undef) rfl rfl (by kernel_rfl) (by kernel_rfl) (by kernel_rfl) ?_ (Or.inr ⟨by rfl, rfl⟩) (by assumption) ?_; (exact fun _ _ _ h => h); (try simp only [Act.put, List.setIfInBounds_toArray, List.set_cons_zero, List.set_cons_succ]); refine take_at (i := 27) (d := some 115) (v := undef) rfl rfl (by kernel_rfl) (by kernel_rfl) (by kernel_rfl) ?_ (Or.inr ⟨by rfl, rfl⟩) (by assumption) ?_; (exact fun _ _ _ h => h); (try simp only [Act.put, List.setIfInBounds_toArray, List.set_cons_zero, List.set_cons_succ]); refine take_at (i := 28) (d := some 116) (v := undef) rfl rfl (by kernel_rfl) (by kernel_rfl) (by kernel_rfl) ?_ (Or.inr ⟨by rfl, rfl⟩) (by assumption) ?_; (exact fun _ _ _ h => h); (try simp only [Act.put, List.setIfInBounds_toArray, List.set_cons_zero, List.set_cons_succ]); refine take_at (i := 29) (d := some 117) (v := .bool true) rfl rfl (by kernel_rfl) (by kernel_rfl) (by kernel_rfl) ?_ (Or.inl ⟨by rfl, ?_⟩) (by assumption) ?_; (exact fun _ _ _ h => h); (intro w hSw; (try dsimp only at hSw); go_simp); (try simp only [Act.put, List.setIfInBounds_toArray, List.set_cons_zero, List.set_cons_succ]); refine take_at (i := 30) (d := some 118) (v := .bool true) rfl rfl (by kernel_rfl) (by kernel_rfl) (by kernel_rfl) ?_ (Or.inl ⟨by rfl, ?_⟩) (by assumption) ?_; (exact fun _ _ _ h => h); (intro w hSw; (try dsimp only at hSw); go_simp); (try simp only [Act.put, List.setIfInBounds_toArray, List.set_cons_zero, List.set_cons_succ]); refine take_at (i := 31) (d := some 2) (v := .bool true) rfl rfl (by kernel_rfl) (by kernel_rfl) (by kernel_rfl) ?_ (Or.inl ⟨by rfl, ?_⟩) (by assumption) ?_; (exact fun _ _ _ h => h); (intro w hSw; (try dsimp only at hSw); go_simp); (try simp only [Act.put, List.setIfInBounds_toArray, List.set_cons_zero, List.set_cons_succ]); refine wpAnyH_done (by kernel_rfl) ?_ _; refine NoPanic.normal ?_; go_wp2; go_ret; exact ⟨rfl, bb9⟩); intro hF; (try simp only [Act.put, List.setIfInBounds_toArray, List.set_cons_zero, List.set_cons_succ]))))
        go_wp2
        go_ret
        exact ⟨rfl, bb11⟩
end Go.Proofs.Ytkiebajggombiaa
