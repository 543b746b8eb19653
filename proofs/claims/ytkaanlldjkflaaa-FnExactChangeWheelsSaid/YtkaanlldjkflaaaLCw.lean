/- What is proved here: the walk of laws.FnExactChangeWheels. -/
import Derived.Test.YtkaanlldjkflaaaCws
set_option linter.unusedVariables false
set_option linter.unusedSimpArgs false
set_option maxRecDepth 100000
namespace Go.Proofs.Ytkaanlldjkflaaa
open Go.RowKit

set_option maxHeartbeats 3200000 in
theorem w_FnExactChangeWheels (w : World) (v : Value) (cs : List ByteArray) (hv : IsT w w.heap.size v cs) (u : Value) (ds : List ByteArray) (hu : IsT w w.heap.size u ds) :
    Calls Try.prog 3 #[.agg #[v], .agg #[u]] w fun e w' => e = .returned (.bool true) ∧ Below w.heap.size w w' := by
  obtain ⟨av, cv, hav⟩ : ∃ a cap, v = .slice a cs.length cap := ⟨_, _, hv.choose_spec.choose_spec.1⟩
  obtain ⟨au, cu, hau⟩ : ∃ a cap, u = .slice a ds.length cap := ⟨_, _, hu.choose_spec.choose_spec.1⟩
  subst hav hau
  have c1 := RetRow.e1 w (.cells #[.slice av cs.length cv] 24)
  have c2 := RetRow.e1 (w.alloc (.cells #[.slice av cs.length cv] 24)) (.cells #[.slice au ds.length cu] 24)
  have hs1 : (w.alloc (.cells #[.slice av cs.length cv] 24)).heap.size = w.heap.size + 1 := by simp
  have e0 := (c2.cell (p := ⟨w.heap.size, 0, none⟩) (show w.heap.size < _ by omega)).trans (eng_cell w (.slice av cs.length cv) 24)
  have e1 := eng_cell (w.alloc (.cells #[.slice av cs.length cv] 24)) (.slice au ds.length cu) 24
  rw [hs1] at e1
  have c3 := c1.trans (c2.mono (by omega))
  have hs3 := c3.size
  have hv1 := (hv.below c3 (Nat.le_refl _)).up hs3
  have hu1 := (hu.below c3 (Nat.le_refl _)).up hs3
  have l0 := World.block_lt_of_cell? _ _ e0
  have l1 := World.block_lt_of_cell? _ _ e1
  clear c1 c2 hv hu
  obtain ⟨wA, hwA⟩ : ∃ x, (w.alloc (.cells #[.slice av cs.length cv] 24)).alloc (.cells #[.slice au ds.length cu] 24) = x := ⟨_, rfl⟩
  rw [hwA] at e0 e1 c3 hv1 hu1 hs3 l0 l1
  have HK := hid (fun w' (hb : Below wA.heap.size wA w') => (show w'.cell? ⟨w.heap.size, 0, none⟩ = some (.slice av cs.length cv) ∧ w'.cell? ⟨w.heap.size + 1, 0, none⟩ = some (.slice au ds.length cu) from ⟨(hb.cell (p := ⟨w.heap.size, 0, none⟩) l0).trans e0, (hb.cell (p := ⟨w.heap.size + 1, 0, none⟩) l1).trans e1⟩))
  have HV := hid (fun w' (hb : Below wA.heap.size wA w') => (show IsT w' w'.heap.size _ cs from (hv1.below hb (Nat.le_refl _)).up hb.size))
  have HU := hid (fun w' (hb : Below wA.heap.size wA w') => (show IsT w' w'.heap.size _ ds from (hu1.below hb (Nat.le_refl _)).up hb.size))
  have bb := Below.refl wA.heap.size wA
  have HT : Hid (tZ cs = cs.length + tT cs cs.length ∧ tZ ds = ds.length + tT ds ds.length) := ⟨rfl, rfl⟩
  clear hv1 hu1
  by_cases b1 : 1048576 < (tZ cs : Nat)
  · have HZ := hid (show szT cs 1048576 = -1 from if_pos (by omega))
    go_enter Try.func3, Try.ntmps3
    go_wp2_with fail
    refine (szEng _ cs 1048576 (by omega) (by omega) _ (HV.out _ bb)).mono ?_
    rw [HZ.out]
    rintro e w1 ⟨rfl, c⟩
    go_wp2
    go_ret
    exact ⟨rfl, c3.trans (c.mono hs3)⟩
  · have HZ := hid (show szT cs 1048576 = 1048576 - (tZ cs : Nat) from if_neg (by omega))
    by_cases b2 : 1048576 - ((tZ cs : Nat) : Int) < (tZ ds : Nat)
    · have HZ2 := hid (show szT ds (1048576 - (tZ cs : Nat)) = -1 from if_pos (by omega))
      have q0 : ¬ 1048576 - ((tZ cs : Nat) : Int) < 0 := by omega
      go_enter Try.func3, Try.ntmps3
      go_wp2_with fail
      refine (szEng _ cs 1048576 (by omega) (by omega) _ (HV.out _ bb)).mono ?_
      rw [HZ.out]
      rintro e w1 ⟨rfl, c⟩
      have bb1 := bb.trans c
      obtain ⟨f0, f1⟩ := HK.out _ bb1
      go_wp2_with fail
      refine (szEng _ ds _ (by omega) (by omega) _ (HU.out _ bb1)).mono ?_
      rw [HZ2.out]
      rintro e w2 ⟨rfl, c⟩
      have bb2 := bb1.trans (c.mono bb1.size)
      go_wp2
      go_ret
      exact ⟨rfl, c3.trans (bb2.mono hs3)⟩
    · have HZ2 := hid (show szT ds (1048576 - (tZ cs : Nat)) = 1048576 - (tZ cs : Nat) - (tZ ds : Nat) from if_neg (by omega))
      have q0 : ¬ 1048576 - ((tZ cs : Nat) : Int) < 0 := by omega
      have q1 : ¬ 1048576 - ((tZ cs : Nat) : Int) - ((tZ ds : Nat) : Int) < 0 := by omega
      have hlc : cs.length ≤ 1048576 := by have := HT.out.1; omega
      have hld : ds.length ≤ 1048576 := by have := HT.out.2; omega
      have t1 : (cwF cs ds != cwF cs ds) = false := by simp
      go_enter Try.func3, Try.ntmps3
      go_wp2_with fail
      refine (szEng _ cs 1048576 (by omega) (by omega) _ (HV.out _ bb)).mono ?_
      rw [HZ.out]
      rintro e w1 ⟨rfl, c⟩
      have bb1 := bb.trans c
      obtain ⟨f0, f1⟩ := HK.out _ bb1
      go_wp2_with fail
      refine (szEng _ ds _ (by omega) (by omega) _ (HU.out _ bb1)).mono ?_
      rw [HZ2.out]
      rintro e w2 ⟨rfl, c⟩
      have bb2 := bb1.trans (c.mono bb1.size)
      clear f0 f1 c
      go_wp2_with fail
      refine wp_region_held_drew (S := fun w' => w'.cell? ⟨w.heap.size, 0, none⟩ = some (.slice av cs.length cv) ∧ w'.cell? ⟨w.heap.size + 1, 0, none⟩ = some (.slice au ds.length cu)) (by kernel_rfl) ?_ (fun hHeld => ?_)
      focus (exact HK.out _ bb2.drew)
      refine take_at (i := 0) (d := some 20) (v := ?_) rfl rfl (by kernel_rfl) (by kernel_rfl) (by kernel_rfl) ?_ (Or.inl ⟨by rfl, ?_⟩) (by assumption) ?_
      rotate_left
      exact fun _ _ _ h => h
      focus (intro w hSw; (try dsimp only at hSw); go_simp; (try with_reducible rfl); done)
      (try simp only [Act.put, List.setIfInBounds_toArray, List.set_cons_zero, List.set_cons_succ])
      refine take_at (i := 2) (d := some 22) (v := ?_) rfl rfl (by kernel_rfl) (by kernel_rfl) (by kernel_rfl) ?_ (Or.inl ⟨by rfl, ?_⟩) (by assumption) ?_
      rotate_left
      exact fun _ _ _ h => h
      focus (intro w hSw; (try dsimp only at hSw); go_simp; (try with_reducible rfl); done)
      (try simp only [Act.put, List.setIfInBounds_toArray, List.set_cons_zero, List.set_cons_succ])
      refine wpAnyH_ready (rs := [1]) (by kernel_rfl) (by simp) ?_
      refine AllReadyH.cons (o := _) rfl (fun K hK => ?_) AllReadyH.nil
      go_simp
      refine (toEng _ cs hlc _ (HV.out _ bb2.drew)).mono ?_
      rintro e w3 ⟨g3, p3, rfl, r3, c⟩
      have b3 := bb2.drew.trans (c.mono bb2.size)
      refine hK.out _ _ ?_ (fun hHeld => ?_)
      focus (exact HK.out _ b3)
      clear hK
      (try simp only [Act.put, List.setIfInBounds_toArray, List.set_cons_zero, List.set_cons_succ])
      refine wpAnyH_ready (rs := [3]) (by kernel_rfl) (by simp) ?_
      refine AllReadyH.cons (o := _) rfl (fun K hK => ?_) AllReadyH.nil
      go_simp
      refine (toEng _ ds hld _ (HU.out _ b3)).mono ?_
      rintro e w4 ⟨g4, p4, rfl, r4, c'⟩
      have b4 := b3.trans (c'.mono b3.size); have i3 := ((r3.below c' (Nat.le_refl _)).isT).up c'.size; have i4 := r4.isT
      refine hK.out _ _ ?_ (fun hHeld => ?_)
      focus (exact HK.out _ b4)
      clear hK
      (try simp only [Act.put, List.setIfInBounds_toArray, List.set_cons_zero, List.set_cons_succ])
      refine wpAnyH_ready (rs := [4]) (by kernel_rfl) (by simp) ?_
      refine AllReadyH.cons (o := _) rfl (fun K hK => ?_) AllReadyH.nil
      go_simp
      refine (c_sChangeWheels _ _ cs ds _ i3 i4 hlc hld).mono ?_
      rintro e w5 ⟨rfl, c''⟩
      have b5 := b4.trans (c''.mono b4.size)
      refine hK.out _ _ ?_ (fun hHeld => ?_)
      focus (exact HK.out _ b5)
      clear hK
      (try simp only [Act.put, List.setIfInBounds_toArray, List.set_cons_zero, List.set_cons_succ])
      refine take_at (i := 5) (d := some 6) (v := ?_) rfl rfl (by kernel_rfl) (by kernel_rfl) (by kernel_rfl) ?_ (Or.inl ⟨by rfl, ?_⟩) (by assumption) ?_
      rotate_left
      exact fun _ _ _ h => h
      focus (intro w hSw; (try dsimp only at hSw); go_simp; (try with_reducible rfl); done)
      (try simp only [Act.put, List.setIfInBounds_toArray, List.set_cons_zero, List.set_cons_succ])
      refine wpAnyH_done (by kernel_rfl) ?_ _
      obtain ⟨f0, f1⟩ := HK.out _ b5
      clear hHeld i3 i4 r3 r4 c c' c'' bb1 bb2 b3 b4
      have sz5 := b5.size
      go_wp2_with fail
      refine (toEng _ cs hlc _ (HV.out _ b5)).mono ?_
      rintro e w6 ⟨g6, p6, rfl, r6, c⟩
      have b6 := b5.trans (c.mono b5.size)
      have sz6 := c.size
      clear f0 f1 c
      obtain ⟨f0, f1⟩ := HK.out _ b6
      have bX := RetRow.e1 w6 (.cells #[.slice (some ⟨g6, 0, none⟩) cs.length p6] 27)
      have x0 := eng_cell w6 (.slice (some ⟨g6, 0, none⟩) cs.length p6) 27
      have bB := b6.trans (bX.mono b6.size)
      have i6 := (r6.isT.below bX (Nat.le_refl _)).up bX.size
      have lx := World.block_lt_of_cell? _ _ x0
      obtain ⟨wB, hwB⟩ : ∃ x, w6.alloc (.cells #[.slice (some ⟨g6, 0, none⟩) cs.length p6] 27) = x := ⟨_, rfl⟩
      rw [hwB] at x0 bB i6 lx
      obtain ⟨h0, h1⟩ := HK.out _ bB
      clear r6 bX f0 f1
      go_wp2_with fail
      refine (toEng _ ds hld _ (HU.out _ bB)).mono ?_
      rintro e w7 ⟨g7, p7, rfl, r7, c⟩
      have b7 := bB.trans (c.mono bB.size)
      have sz7 := c.size
      replace x0 := (c.cell (p := ⟨w6.heap.size, 0, none⟩) lx).trans x0
      replace i6 := (i6.below c (Nat.le_refl _)).up sz7
      have lx' := World.block_lt_of_cell? _ _ x0
      clear h0 h1 c lx
      have bY := RetRow.e1 w7 (.cells #[.slice (some ⟨g7, 0, none⟩) ds.length p7] 27)
      have x1 := eng_cell w7 (.slice (some ⟨g7, 0, none⟩) ds.length p7) 27
      have bC := b7.trans (bY.mono b7.size)
      have i7 := (r7.isT.below bY (Nat.le_refl _)).up bY.size
      replace x0 := (bY.cell (p := ⟨w6.heap.size, 0, none⟩) lx').trans x0
      replace i6 := (i6.below bY (Nat.le_refl _)).up bY.size
      have ly := World.block_lt_of_cell? _ _ x0
      have lz := World.block_lt_of_cell? _ _ x1
      obtain ⟨wC, hwC⟩ : ∃ x, w7.alloc (.cells #[.slice (some ⟨g7, 0, none⟩) ds.length p7] 27) = x := ⟨_, rfl⟩
      rw [hwC] at x0 x1 bC i6 i7 ly lz
      clear r7 bY
      go_wp2_with fail
      refine (c_iChangeWheels _ _ cs ds _ i6 i7).mono ?_
      rintro e w8 ⟨rfl, c⟩
      have b8 := bC.trans (c.mono bC.size)
      have sz8 := c.size
      replace x0 := (c.cell (p := ⟨w6.heap.size, 0, none⟩) ly).trans x0
      replace x1 := (c.cell (p := ⟨w7.heap.size, 0, none⟩) lz).trans x1
      replace i6 := (i6.below c (Nat.le_refl _)).up sz8
      replace i7 := (i7.below c (Nat.le_refl _)).up sz8
      clear c ly lz
      have ly := World.block_lt_of_cell? _ _ x0
      have lz := World.block_lt_of_cell? _ _ x1
      have HX := hid (fun w' (hb : Below w8.heap.size w8 w') => (show w'.cell? ⟨w6.heap.size, 0, none⟩ = some (.slice (some ⟨g6, 0, none⟩) cs.length p6) ∧ w'.cell? ⟨w7.heap.size, 0, none⟩ = some (.slice (some ⟨g7, 0, none⟩) ds.length p7) ∧ w'.cell? ⟨w.heap.size, 0, none⟩ = some (.slice av cs.length cv) ∧ w'.cell? ⟨w.heap.size + 1, 0, none⟩ = some (.slice au ds.length cu) from
        ⟨(hb.cell (p := ⟨w6.heap.size, 0, none⟩) ly).trans x0, (hb.cell (p := ⟨w7.heap.size, 0, none⟩) lz).trans x1, (HK.out _ (b8.trans (hb.mono b8.size))).1, (HK.out _ (b8.trans (hb.mono b8.size))).2⟩))
      have HI6 := hid (fun w' (hb : Below w8.heap.size w8 w') => (i6.below hb (Nat.le_refl _)).up hb.size)
      have HI7 := hid (fun w' (hb : Below w8.heap.size w8 w') => (i7.below hb (Nat.le_refl _)).up hb.size)
      clear x0 x1 i6 i7 ly lz b5 b6 bB b7 bC
      go_wp2_with fail
      refine wp_region_held_drew (S := fun w' => w'.cell? ⟨w6.heap.size, 0, none⟩ = some (.slice (some ⟨g6, 0, none⟩) cs.length p6) ∧ w'.cell? ⟨w7.heap.size, 0, none⟩ = some (.slice (some ⟨g7, 0, none⟩) ds.length p7) ∧ w'.cell? ⟨w.heap.size, 0, none⟩ = some (.slice av cs.length cv) ∧ w'.cell? ⟨w.heap.size + 1, 0, none⟩ = some (.slice au ds.length cu)) (by kernel_rfl) ?_ (fun hHeld => ?_)
      focus (exact HX.out _ (Below.refl _ _).drew)
      refine take_at (i := 0) (d := some 35) (v := ?_) rfl rfl (by kernel_rfl) (by kernel_rfl) (by kernel_rfl) ?_ (Or.inl ⟨by rfl, ?_⟩) (by assumption) ?_
      rotate_left
      exact fun _ _ _ h => h
      focus (intro w hSw; (try dsimp only at hSw); go_simp; (try with_reducible rfl); done)
      (try simp only [Act.put, List.setIfInBounds_toArray, List.set_cons_zero, List.set_cons_succ])
      refine take_at (i := 1) (d := some 36) (v := ?_) rfl rfl (by kernel_rfl) (by kernel_rfl) (by kernel_rfl) ?_ (Or.inl ⟨by rfl, ?_⟩) (by assumption) ?_
      rotate_left
      exact fun _ _ _ h => h
      focus (intro w hSw; (try dsimp only at hSw); go_simp; (try with_reducible rfl); done)
      (try simp only [Act.put, List.setIfInBounds_toArray, List.set_cons_zero, List.set_cons_succ])
      refine wpAnyH_ready (rs := [2]) (by kernel_rfl) (by simp) ?_
      refine AllReadyH.cons (o := _) rfl (fun K hK => ?_) AllReadyH.nil
      go_simp
      refine (toEng _ cs hlc _ (HV.out _ b8.drew)).mono ?_
      rintro e w9 ⟨g9, p9, rfl, r9, c⟩
      have b9 := (Below.refl w8.heap.size w8).drew.trans c
      refine hK.out _ _ ?_ (fun hHeld => ?_)
      focus (exact HX.out _ b9)
      clear hK
      (try simp only [Act.put, List.setIfInBounds_toArray, List.set_cons_zero, List.set_cons_succ])
      refine wpAnyH_ready (rs := [3]) (by kernel_rfl) (by simp) ?_
      refine AllReadyH.cons (o := _) rfl (fun K hK => ?_) AllReadyH.nil
      go_simp
      refine (eqEng _ _ cs _ _ _ (HI6.out _ b9) r9.isT (Nat.le_refl _) (Nat.le_refl _)).mono ?_
      rintro e w10 ⟨rfl, c⟩
      have b10 := b9.trans (c.mono b9.size)
      refine hK.out _ _ ?_ (fun hHeld => ?_)
      focus (exact HX.out _ b10)
      clear hK
      (try simp only [Act.put, List.setIfInBounds_toArray, List.set_cons_zero, List.set_cons_succ])
      refine take_at (i := 4) (d := some 39) (v := ?_) rfl rfl (by kernel_rfl) (by kernel_rfl) (by kernel_rfl) ?_ (Or.inl ⟨by rfl, ?_⟩) (by assumption) ?_
      rotate_left
      exact fun _ _ _ h => h
      focus (intro w hSw; (try dsimp only at hSw); go_simp; (try with_reducible rfl); done)
      (try simp only [Act.put, List.setIfInBounds_toArray, List.set_cons_zero, List.set_cons_succ])
      refine wpAnyH_done (by kernel_rfl) ?_ _
      go_wp2_with fail
      refine wp_region_held_drew (S := fun w' => w'.cell? ⟨w6.heap.size, 0, none⟩ = some (.slice (some ⟨g6, 0, none⟩) cs.length p6) ∧ w'.cell? ⟨w7.heap.size, 0, none⟩ = some (.slice (some ⟨g7, 0, none⟩) ds.length p7) ∧ w'.cell? ⟨w.heap.size, 0, none⟩ = some (.slice av cs.length cv) ∧ w'.cell? ⟨w.heap.size + 1, 0, none⟩ = some (.slice au ds.length cu)) (by kernel_rfl) ?_ (fun hHeld => ?_)
      focus (exact HX.out _ b10.drew)
      refine take_at (i := 0) (d := some 40) (v := ?_) rfl rfl (by kernel_rfl) (by kernel_rfl) (by kernel_rfl) ?_ (Or.inl ⟨by rfl, ?_⟩) (by assumption) ?_
      rotate_left
      exact fun _ _ _ h => h
      focus (intro w hSw; (try dsimp only at hSw); go_simp; (try with_reducible rfl); done)
      (try simp only [Act.put, List.setIfInBounds_toArray, List.set_cons_zero, List.set_cons_succ])
      refine take_at (i := 1) (d := some 41) (v := ?_) rfl rfl (by kernel_rfl) (by kernel_rfl) (by kernel_rfl) ?_ (Or.inl ⟨by rfl, ?_⟩) (by assumption) ?_
      rotate_left
      exact fun _ _ _ h => h
      focus (intro w hSw; (try dsimp only at hSw); go_simp; (try with_reducible rfl); done)
      (try simp only [Act.put, List.setIfInBounds_toArray, List.set_cons_zero, List.set_cons_succ])
      refine wpAnyH_ready (rs := [2]) (by kernel_rfl) (by simp) ?_
      refine AllReadyH.cons (o := _) rfl (fun K hK => ?_) AllReadyH.nil
      go_simp
      refine (toEng _ ds hld _ (HU.out _ (b8.trans (b10.mono b8.size)).drew)).mono ?_
      rintro e w11 ⟨g11, p11, rfl, r11, c⟩
      have b11 := b10.drew.trans (c.mono b10.size)
      refine hK.out _ _ ?_ (fun hHeld => ?_)
      focus (exact HX.out _ b11)
      clear hK
      (try simp only [Act.put, List.setIfInBounds_toArray, List.set_cons_zero, List.set_cons_succ])
      refine wpAnyH_ready (rs := [3]) (by kernel_rfl) (by simp) ?_
      refine AllReadyH.cons (o := _) rfl (fun K hK => ?_) AllReadyH.nil
      go_simp
      refine (eqEng _ _ ds _ _ _ (HI7.out _ b11) r11.isT (Nat.le_refl _) (Nat.le_refl _)).mono ?_
      rintro e w12 ⟨rfl, c⟩
      have b12 := b11.trans (c.mono b11.size)
      refine hK.out _ _ ?_ (fun hHeld => ?_)
      focus (exact HX.out _ b12)
      clear hK
      (try simp only [Act.put, List.setIfInBounds_toArray, List.set_cons_zero, List.set_cons_succ])
      refine take_at (i := 4) (d := some 44) (v := ?_) rfl rfl (by kernel_rfl) (by kernel_rfl) (by kernel_rfl) ?_ (Or.inl ⟨by rfl, ?_⟩) (by assumption) ?_
      rotate_left
      exact fun _ _ _ h => h
      focus (intro w hSw; (try dsimp only at hSw); go_simp; (try with_reducible rfl); done)
      (try simp only [Act.put, List.setIfInBounds_toArray, List.set_cons_zero, List.set_cons_succ])
      refine wpAnyH_done (by kernel_rfl) ?_ _
      go_wp2
      go_ret
      exact ⟨rfl, c3.trans ((b8.trans (b12.mono b8.size)).mono hs3)⟩
end Go.Proofs.Ytkaanlldjkflaaa
