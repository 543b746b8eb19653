/- What is proved here: the walk of laws.FnExactRunWithSlip. -/
import Derived.Test.YtkaanlldjkflaaaRws
import Derived.Test.YtkaanlldjkflaaaRws2
import Derived.Test.YtkaanlldjkflaaaMrk
import Derived.Test.YtkaanlldjkflaaaLaws1
set_option linter.unusedVariables false
set_option linter.unusedSimpArgs false
set_option maxRecDepth 100000
namespace Go.Proofs.Ytkaanlldjkflaaa
open Go.RowKit

theorem cell_chg {w w' : World} {lo hi b o : Nat} {u : Value} (h : w.cell? ⟨b, o, none⟩ = some u) (hc : Chg lo hi w w') (hb : b < lo ∨ hi ≤ b) : w'.cell? ⟨b, o, none⟩ = some u :=
  (World.cell?_of_block (w := w) (a := ⟨b, o, none⟩) (hc.block b (World.block_lt_of_cell? _ _ h) (by omega))).trans h
theorem cell_bel {w w' : World} {B b o : Nat} {u : Value} (h : w.cell? ⟨b, o, none⟩ = some u) (hc : Below B w w') (hb : b < B) : w'.cell? ⟨b, o, none⟩ = some u :=
  (hc.cell (p := ⟨b, o, none⟩) hb).trans h
set_option maxHeartbeats 3200000 in
theorem w_FnExactRunWithSlip (w : World) (v : Value) (cs : List ByteArray) (hv : IsT w w.heap.size v cs) (cnt : Int) (hcnt : I64 cnt) (t : Int) (ht : I64 t) (c : Int) (hc : I64 c) (a : Int) (ha : I64 a) :
    Calls Try.prog 5 #[.agg #[v], .int .i64 cnt, .int .i64 t, .int .i64 c, .int .i64 a] w fun e w' => e = .returned (.bool true) ∧ Below w.heap.size w w' := by
  obtain ⟨av, cv, hav⟩ : ∃ a cap, v = .slice a cs.length cap := ⟨_, _, hv.choose_spec.choose_spec.1⟩
  subst hav
  have e0 := eng_cell w (.slice av cs.length cv) 24
  have b := RetRow.e1 w (.cells #[.slice av cs.length cv] 24)
  have i0 := hv.below b (Nat.le_refl _)
  have l0 := World.block_lt_of_cell? _ _ e0
  obtain ⟨wA, hwA⟩ : ∃ x, w.alloc (.cells #[.slice av cs.length cv] 24) = x := ⟨_, rfl⟩
  rw [hwA] at e0 b i0 l0
  have l0' : w.heap.size < wA.heap.size := l0
  have HT : Hid (tZ cs = cs.length + tT cs cs.length) := rfl
  clear hv l0 hcnt ht hc ha
  by_cases b1 : 1048576 < (tZ cs : Nat)
  · have HZ := hid (show szT cs 1048576 = -1 from if_pos (by omega))
    go_enter Try.func5, Try.ntmps5
    go_wp2_with fail
    refine (szEng _ cs 1048576 (by omega) (by omega) _ (i0.up (by omega))).mono ?_
    rw [HZ.out]
    rintro e w1 ⟨rfl, c⟩
    go_wp2
    go_ret
    exact ⟨rfl, b.trans (c.mono (by omega))⟩
  · have HZ := hid (show szT cs 1048576 = 1048576 - (tZ cs : Nat) from if_neg (by omega))
    have q0 : ¬ 1048576 - ((tZ cs : Nat) : Int) < 0 := by omega
    have hlc : cs.length ≤ 1048576 := by have := HT.out; omega
    have hl := rsF_len cs cnt t c a
    have t1 : (rsOk cs cnt t c a != rsOk cs cnt t c a) = false := by simp
    obtain ⟨L, hL⟩ : ∃ L, rsF cs cnt t c a = L := ⟨_, rfl⟩
    have HL := hid hL
    have HCI := hid (fun W (v : Value) (h : IsT W W.heap.size v cs) => (show Calls Try.prog 17 #[.agg #[v], .int .i64 cnt, .int .i64 t, .int .i64 c, .int .i64 a] W (RetRowB W L (rsOk cs cnt t c a)) by rw [← hL]; exact c_iRunWithSlip v cs cnt t c a W h))
    have HCS := hid (fun W (v : Value) (h : IsT W W.heap.size v cs) => (show Calls Try.prog 16 #[.agg #[v], .int .i64 cnt, .int .i64 t, .int .i64 c, .int .i64 a] W (RetRowB W L (rsOk cs cnt t c a)) by rw [← hL]; exact c_sRunWithSlip v cs cnt t c a W h hlc))
    have t2 : ((1 + (L.length : Int)) != (1 + (L.length : Int))) = false := by simp
    have t3 : ¬ 1 + (cs.length : Int) < 0 := by omega
    have t4 : ¬ 1 + (L.length : Int) < 0 := by omega
    rw [hL] at hl
    clear hL
    go_enter Try.func5, Try.ntmps5
    go_wp2_with fail
    refine (szEng _ cs 1048576 (by omega) (by omega) _ (i0.up (by omega))).mono ?_
    rw [HZ.out]
    rintro e w1 ⟨rfl, cx⟩
    have s1 := cx.size
    replace e0 := cell_bel e0 cx (by omega)
    replace i0 := i0.below (cx.mono (by omega)) (Nat.le_refl _)
    replace b := b.trans (cx.mono (by omega))
    clear cx
    go_wp2_with fail
    refine (toEng _ cs hlc _ (i0.up (by omega))).mono ?_
    rintro e w4 ⟨g2, p2, rfl, r2, cx⟩
    have s4 := cx.size
    replace e0 := cell_bel e0 cx (by omega)
    replace i0 := i0.below (cx.mono (by omega)) (Nat.le_refl _)
    replace b := b.trans (cx.mono (by omega))
    clear cx
    go_wp2_with fail
    refine (HCS.out _ _ (r2.isT.up (by omega))).mono ?_
    rintro e w5 ⟨v3, rfl, rW, cx⟩
    have s5 := cx.size
    replace e0 := cell_bel e0 cx (by omega)
    replace i0 := i0.below (cx.mono (by omega)) (Nat.le_refl _)
    replace b := b.trans (cx.mono (by omega))
    clear cx
    clear r2
    go_wp2_with fail
    refine (toEng _ cs hlc _ (i0.up (by omega))).mono ?_
    rintro e w6 ⟨g4, p4, rfl, r4, cx⟩
    have s6 := cx.size
    replace e0 := cell_bel e0 cx (by omega)
    replace i0 := i0.below (cx.mono (by omega)) (Nat.le_refl _)
    replace b := b.trans (cx.mono (by omega))
    replace rW := rW.below cx (by omega)
    clear cx
    have bX := RetRow.e1 w6 (.cells #[.slice (some ⟨g4, 0, none⟩) cs.length p4] 27)
    have x0 := eng_cell w6 (.slice (some ⟨g4, 0, none⟩) cs.length p4) 27
    have lx := World.block_lt_of_cell? _ _ x0
    obtain ⟨wB, hwB⟩ : ∃ x, w6.alloc (.cells #[.slice (some ⟨g4, 0, none⟩) cs.length p4] 27) = x := ⟨_, rfl⟩
    rw [hwB] at x0 bX lx
    have lxB : w6.heap.size < wB.heap.size := lx
    have sB := bX.size
    clear lx
    replace e0 := cell_bel e0 bX (by omega)
    replace i0 := i0.below (bX.mono (by omega)) (Nat.le_refl _)
    replace b := b.trans (bX.mono (by omega))
    replace rW := rW.below bX (by omega)
    replace r4 := r4.below bX (by omega)
    clear bX
    go_wp2_with fail
    refine (HCI.out _ _ (r4.isT.up (by omega))).mono ?_
    rintro e w8 ⟨vG, rfl, rG, cx⟩
    have s8 := cx.size
    replace e0 := cell_bel e0 cx (by omega)
    replace i0 := i0.below (cx.mono (by omega)) (Nat.le_refl _)
    replace b := b.trans (cx.mono (by omega))
    replace rW := rW.below cx (by omega)
    replace r4 := r4.below cx (by omega)
    replace x0 := cell_bel x0 cx (by omega)
    clear cx
    clear hwB hwA
    go_wp2_with fail
    refine (eqSameC _ _ _ _ _ _ rG.isI rW.isI).mono ?_
    rintro e w9 ⟨rfl, cx⟩
    have s9 := cx.size
    replace e0 := cell_chg e0 cx (by omega)
    replace i0 := i0.below (cx.below (B := w.heap.size) (by omega) (by omega)) (Nat.le_refl _)
    replace b := b.trans (cx.below (by omega) (by omega))
    replace rW := rW.keep cx (by omega)
    replace r4 := r4.keep cx (by omega)
    replace x0 := cell_chg x0 cx (by omega)
    replace rG := rG.keep cx (by omega)
    clear cx
    go_wp2_with fail
    refine wp_region_held_drew (S := fun w' => w'.cell? ⟨w6.heap.size, 0, none⟩ = some (.slice (some ⟨g4, 0, none⟩) cs.length p4) ∧ w'.cell? ⟨w.heap.size, 0, none⟩ = some (.slice av cs.length cv)) (by kernel_rfl) ?_ (fun hHeld => ?_)
    focus (exact ⟨x0, e0⟩)
    refine take_at (i := 0) (d := some 57) (v := ?_) rfl rfl (by kernel_rfl) (by kernel_rfl) (by kernel_rfl) ?_ (Or.inl ⟨by rfl, ?_⟩) (by assumption) ?_
    rotate_left
    exact fun _ _ _ h => h
    focus (intro w hSw; (try dsimp only at hSw); go_simp; (try with_reducible rfl); done)
    (try simp only [Act.put, List.setIfInBounds_toArray, List.set_cons_zero, List.set_cons_succ])
    refine take_at (i := 1) (d := some 58) (v := ?_) rfl rfl (by kernel_rfl) (by kernel_rfl) (by kernel_rfl) ?_ (Or.inl ⟨by rfl, ?_⟩) (by assumption) ?_
    rotate_left
    exact fun _ _ _ h => h
    focus (intro w hSw; (try dsimp only at hSw); go_simp; (try with_reducible rfl); done)
    (try simp only [Act.put, List.setIfInBounds_toArray, List.set_cons_zero, List.set_cons_succ])
    refine wpAnyH_ready (rs := [2]) (by kernel_rfl) (by simp) ?_
    refine AllReadyH.cons (o := _) rfl (fun K hK => ?_) AllReadyH.nil
    go_simp
    refine (toEng _ cs hlc _ (show IsT w9.drew w9.drew.heap.size _ cs from i0.up (show w.heap.size ≤ w9.heap.size by omega))).mono ?_
    rintro e wM ⟨gM, pM, rfl, rM, cx0⟩
    have cx : Below w9.heap.size w9 wM := ⟨cx0.os, cx0.tape, cx0.output, cx0.size, cx0.block⟩
    replace rM : RwT wM w9.heap.size wM.heap.size _ cs := rM
    clear cx0
    have sM := cx.size
    replace e0 := cell_bel e0 cx (by omega)
    replace i0 := i0.below (cx.mono (by omega)) (Nat.le_refl _)
    replace b := b.trans (cx.mono (by omega))
    replace rW := rW.below cx (by omega)
    replace r4 := r4.below cx (by omega)
    replace x0 := cell_bel x0 cx (by omega)
    replace rG := rG.below cx (by omega)
    clear cx
    refine hK.out _ _ ⟨x0, e0⟩ (fun hHeld => ?_)
    clear hK
    (try simp only [Act.put, List.setIfInBounds_toArray, List.set_cons_zero, List.set_cons_succ])
    refine wpAnyH_ready (rs := [3]) (by kernel_rfl) (by simp) ?_
    refine AllReadyH.cons (o := _) rfl (fun K hK => ?_) AllReadyH.nil
    go_simp
    refine (eqEng _ _ cs _ _ _ r4.isT rM.isT (by omega) (by omega)).mono ?_
    rintro e wN ⟨rfl, cx⟩
    have sN := cx.size
    replace e0 := cell_bel e0 cx (by omega)
    replace i0 := i0.below (cx.mono (by omega)) (Nat.le_refl _)
    replace b := b.trans (cx.mono (by omega))
    replace rW := rW.below cx (by omega)
    replace r4 := r4.below cx (by omega)
    replace x0 := cell_bel x0 cx (by omega)
    replace rG := rG.below cx (by omega)
    clear cx
    clear rM
    refine hK.out _ _ ⟨x0, e0⟩ (fun hHeld => ?_)
    clear hK
    (try simp only [Act.put, List.setIfInBounds_toArray, List.set_cons_zero, List.set_cons_succ])
    refine take_at (i := 4) (d := some 61) (v := ?_) rfl rfl (by kernel_rfl) (by kernel_rfl) (by kernel_rfl) ?_ (Or.inl ⟨by rfl, ?_⟩) (by assumption) ?_
    rotate_left
    exact fun _ _ _ h => h
    focus (intro w hSw; (try dsimp only at hSw); go_simp; (try with_reducible rfl); done)
    (try simp only [Act.put, List.setIfInBounds_toArray, List.set_cons_zero, List.set_cons_succ])
    refine wpAnyH_done (by kernel_rfl) ?_ _
    clear hHeld
    go_wp2_with fail
    refine (markEng _ cs 1 _ _ _ (by omega) (by omega) (by omega) r4).mono ?_
    rintro e w16 ⟨rfl, cx⟩
    have s16 := cx.size
    replace e0 := cell_chg e0 cx (by omega)
    replace i0 := i0.below (cx.below (B := w.heap.size) (by omega) (by omega)) (Nat.le_refl _)
    replace b := b.trans (cx.below (by omega) (by omega))
    replace rW := rW.keep cx (by omega)
    replace x0 := cell_chg x0 cx (by omega)
    replace rG := rG.keep cx (by omega)
    clear cx
    clear r4
    go_wp2_with fail
    refine (eqSameC _ _ _ _ _ _ rG.isI rW.isI).mono ?_
    rintro e w17 ⟨rfl, cx⟩
    have s17 := cx.size
    replace e0 := cell_chg e0 cx (by omega)
    replace i0 := i0.below (cx.below (B := w.heap.size) (by omega) (by omega)) (Nat.le_refl _)
    replace b := b.trans (cx.below (by omega) (by omega))
    replace rW := rW.keep cx (by omega)
    replace x0 := cell_chg x0 cx (by omega)
    replace rG := rG.keep cx (by omega)
    clear cx
    go_wp2_with fail
    refine (markInts _ L 1 _ _ _ (by omega) (by omega) rG).mono ?_
    clear rG
    rintro e wO ⟨rfl, rG, cx⟩
    have sO := cx.size
    replace e0 := cell_chg e0 cx (by omega)
    replace i0 := i0.below (cx.below (B := w.heap.size) (by omega) (by omega)) (Nat.le_refl _)
    replace b := b.trans (cx.below (by omega) (by omega))
    replace rW := rW.keep cx (by omega)
    replace x0 := cell_chg x0 cx (by omega)
    clear cx
    go_wp2_with fail
    refine (heldRow _ 1 (1 + (L.length : Int)) L.length _ _ _ (by omega) (by omega) (by omega) rG).mono ?_
    rintro e wx19 ⟨rfl, rfl⟩
    go_wp2_with fail
    refine (toEng _ cs hlc _ (i0.up (by omega))).mono ?_
    rintro e w20 ⟨gP, pP, rfl, rP, cx⟩
    have s20 := cx.size
    replace e0 := cell_bel e0 cx (by omega)
    replace i0 := i0.below (cx.mono (by omega)) (Nat.le_refl _)
    replace b := b.trans (cx.mono (by omega))
    replace rW := rW.below cx (by omega)
    replace x0 := cell_bel x0 cx (by omega)
    replace rG := rG.below cx (by omega)
    clear cx
    go_wp2_with fail
    refine (HCI.out _ _ (rP.isT.up (by omega))).mono ?_
    rintro e w21 ⟨vH, rfl, rH, cx⟩
    have s21 := cx.size
    replace e0 := cell_bel e0 cx (by omega)
    replace i0 := i0.below (cx.mono (by omega)) (Nat.le_refl _)
    replace b := b.trans (cx.mono (by omega))
    replace rW := rW.below cx (by omega)
    replace x0 := cell_bel x0 cx (by omega)
    replace rG := rG.below cx (by omega)
    clear cx
    clear rP
    go_wp2_with fail
    refine (eqSameC _ _ _ _ _ _ rH.isI rW.isI).mono ?_
    rintro e w22 ⟨rfl, cx⟩
    have s22 := cx.size
    replace e0 := cell_chg e0 cx (by omega)
    replace i0 := i0.below (cx.below (B := w.heap.size) (by omega) (by omega)) (Nat.le_refl _)
    replace b := b.trans (cx.below (by omega) (by omega))
    replace rW := rW.keep cx (by omega)
    replace x0 := cell_chg x0 cx (by omega)
    replace rG := rG.keep cx (by omega)
    replace rH := rH.keep cx (by omega)
    clear cx
    go_wp2_with fail
    refine (heldRow _ 1 (1 + (L.length : Int)) L.length _ _ _ (by omega) (by omega) (by omega) rG).mono ?_
    rintro e wx23 ⟨rfl, rfl⟩
    go_wp2_with fail
    go_ret
    exact ⟨rfl, b⟩
end Go.Proofs.Ytkaanlldjkflaaa
