/- What is proved here: those statements of Rws that this claim needs. -/
import Derived.Test.YtlinkeemccnfmaaGreatDoorRwsM
set_option linter.unusedVariables false
set_option linter.unusedSimpArgs false
set_option maxRecDepth 100000
namespace Go.Proofs.YtlinkeemccnfmaaGreatDoor
open Go.RowKit
set_option maxHeartbeats 3200000 in
theorem c_iRunWithSlip (v : Value) (cs : List ByteArray) (cnt t c a : Int) (w : World) (hv : IsT w w.heap.size v cs) :
    Calls Tryz.prog 10 #[.agg #[v], .int .i64 cnt, .int .i64 t, .int .i64 c, .int .i64 a] w (RetRowB w (rsF cs cnt t c a) (rsOk cs cnt t c a)) := by
  obtain ⟨av, cv, hav⟩ : ∃ a cap, v = .slice a cs.length cap := ⟨_, _, hv.choose_spec.choose_spec.1⟩
  subst hav
  have e0 := eng_cell w (.slice av cs.length cv) 28
  have b1 := RetRow.e1 w (.cells #[.slice av cs.length cv] 28)
  have hv1 := (hv.below b1 (Nat.le_refl _)).up b1.size
  obtain ⟨wA, hwA⟩ : ∃ x, w.alloc (.cells #[.slice av cs.length cv] 28) = x := ⟨_, rfl⟩
  rw [hwA] at e0 b1 hv1
  have s1 := b1.size
  clear hv
  have HD : Hid (rsOk cs cnt t c a = (EGV cs && (inB cnt 0 60 && (slipB c t a && decide (c < cs.length))))) := rfl
  by_cases hE : EGV cs = true
  · by_cases hC : inB cnt 0 60 = true
    · by_cases hS : slipB c t a = true
      · by_cases hL : c < cs.length
        · have HOK := hid (show rsOk cs cnt t c a = true by rw [HD.out, hE, hC, hS]; simpa using hL)
          have HR := hid (rsF_yes HOK.out)
          obtain ⟨⟨k0, -⟩, ⟨-, -⟩, hab⟩ := slipB_iff.1 hS
          obtain ⟨hn0, hn1⟩ := inB_iff.1 hC
          obtain ⟨n, rfl⟩ : ∃ n : Nat, cnt = n := ⟨cnt.toNat, by omega⟩
          obtain ⟨k, rfl⟩ : ∃ k : Nat, c = k := ⟨c.toNat, by omega⟩
          obtain ⟨a0, a1⟩ := hab
          have HEC := hid (fun j => EGV_rsC (t := t) (c := k) (a := a) hE (show (k : Int).toNat < cs.length by omega) j)
          have HES := hid (fun j => EGV_rsS (cs := rsC cs t k a j) (t := t) (c := k) (a := a) (n := j) (HEC.out j) (show (k : Int).toNat < (rsC cs t k a j).length by rw [rsC_len]; omega))
          have HRB := hid (fun j => rsR_bd (t := t) (c := k) (a := a) hE (show (k : Int).toNat < cs.length by omega) j)
          have HLC := hid (fun j => rsC_len cs t k a j)
          have HLS := hid (fun j => (rsS_len (rsC cs t k a j) t k a j).trans (rsC_len cs t k a j))
          have HE := hid hE
          have HC := hid hC
          have HS := hid hS
          have n1 := (EGV_iff.1 hE).1
          obtain ⟨n1, n7⟩ := n1
          have q1 : (k : Int) < cs.length := hL
          have q2 : k < cs.length := by omega
          have hng : ¬ (k : Int) ≥ cs.length := by omega
          have hmk := mk_ints Tryz.underlying23 Tryz.infoInt n (by omega)
          have HM := made_zero n
          generalize madeCells #[Value.int .i64 0] n = mc at *
          have HM' := hid HM
          rw [HR.out, HOK.out]
          clear hE hC hS HM hL
          go_enter Tryz.func10, Tryz.ntmps10
          go_wp2_with fail
          refine (c_iEngineValid _ cs _ hv1).mono ?_
          rw [HE.out]
          rintro e wx ⟨rfl, cx⟩
          replace e0 := (cx.cell (p := ⟨w.heap.size, 0, none⟩) (World.block_lt_of_cell? _ _ e0)).trans e0
          have sx := cx.size
          replace hv1 := (hv1.below cx (Nat.le_refl _)).up sx
          replace b1 := b1.trans (cx.mono s1)
          clear cx
          go_wp2_with fail
          refine (c_countValid _ _).mono ?_
          rw [HC.out]
          rintro e wy ⟨rfl, rfl⟩
          go_wp2_with fail
          refine (c_slipValid _ _ _ _).mono ?_
          rw [HS.out]
          rintro e wy ⟨rfl, rfl⟩
          go_wp2_with fail
          refine (c_CloneT _ cs _ (by omega) (by omega) hv1).mono ?_
          rintro e w2 ⟨g2, cap2, rfl, r2, c2⟩
          have s2 := c2.size
          replace b1 := b1.trans (c2.mono b1.size)
          have b3 := b1.alloc b1.size (.cells mc 3)
          have hB0 : Blk (w2.alloc (.cells mc 3)) w2.heap.size (List.replicate n 0) := Blk.new HM'.out
          have r3 := r2.below (RetRow.e1 w2 (.cells mc 3)) (Nat.le_refl _)
          have hg2 := r2.lt
          have hRl : w.heap.size ≤ w2.heap.size := b1.size
          have r3' := (r3.up (show w2.heap.size ≤ (w2.alloc (.cells mc 3)).heap.size by simp)).down (show w.heap.size ≤ wx.heap.size by omega)
          have HR3 := hid r3'
          clear r2 c2 r3 r3' b1 hv1 e0
          obtain ⟨gR, hgRe⟩ : ∃ x, w2.heap.size = x := ⟨_, rfl⟩
          have HGE := hid hgRe
          rw [hgRe] at hB0 hRl hg2
          go_wp2
          clear hgRe
          go_loopw [12, 44] (fun v i wr => ∃ (j g cap : Nat) (ys : List Int), j ≤ n ∧ i = .int .i64 j ∧ v = .slice (some ⟨g, 0, none⟩) cs.length cap ∧ Hid (RwT wr w.heap.size wr.heap.size (.slice (some ⟨g, 0, none⟩) cs.length cap) (rsC cs t k a j)) ∧ g ≠ gR ∧ Blk wr gR ys ∧ Hid (ys.length = n) ∧ Hid (∀ i, i < j → el ys i = rsR cs t k a i) ∧ Below w.heap.size w wr) (fun _ i _ => n - (intOf i).toNat)
          case atStart => exact ⟨0, g2, cap2, List.replicate n 0, Nat.zero_le _, rfl, rfl, HR3.out, by omega, hB0, by show _ = _; simp, fun i hi => by omega, b3⟩
          case round =>
            obtain ⟨j, g, cap, ys, hj, rfl, rfl, HRW, hgR, hB, HYL, HYS, hbel⟩ := hrel
            clear hmk hB0 b3 HR3
            have hbs := hbel.size
            by_cases hlt : j < n
            · have qj0 : (0 : Int) ≤ (j : Int) := by omega
              have qj1 : (j : Int) < n := by omega
              have HEds := hid (HEC.out j)
              have HEes := hid (HES.out j)
              have HLD := hid (HLC.out j)
              have HLE := hid (HLS.out j)
              have HCN := hid (show rsC cs t k a (j + 1) = tuN (rsS (rsC cs t k a j) t k a j) from rfl)
              have HRJ := hid (show sgN (tC (rsS (rsC cs t k a j) t k a j) 0) = rsR cs t k a j from rfl)
              have HSD : Hid (rsS (rsC cs t k a j) t k a j = if (j : Int) = t then (rsC cs t k a j).set k (slC (tC (rsC cs t k a j) k) a) else rsC cs t k a j) := rfl
              obtain ⟨es, hes⟩ : ∃ es, rsS (rsC cs t k a j) t k a j = es := ⟨_, rfl⟩
              rw [hes] at HEes HLE HCN HRJ HSD
              obtain ⟨ds, hds⟩ : ∃ ds, rsC cs t k a j = ds := ⟨_, rfl⟩
              rw [hds] at HEds HLD HSD HRW
              clear hes hds
              have HCV0 := hid ((EGV_iff.1 HEes.out).2 0 (by rw [HLE.out]; omega)).1
              have HCVk := hid ((EGV_iff.1 HEds.out).2 k (by rw [HLD.out]; exact q2)).1
              have HL6 := hid ((tuN_len es).trans HLE.out)
              have hle : es.length = cs.length := HLE.out
              by_cases ht : (j : Int) = t
              · have HSE := hid (show es = ds.set k (slC (tC ds k) a) by rw [HSD.out, if_pos ht])
                have ht' : ((j : Int) == t) = true := by simpa using ht
                have hr := HRW.out
                have hck := (hr.at (show k < ds.length by rw [HLD.out]; exact q2)).1
                have hvb := vl_bd HCVk.out
                have hzz := (CV_iff.1 HCVk.out).1
                have htt := ten12 hzz.2
                have htp := ten_pos (tC ds k).size
                have m0 := md_nonneg (vl (tC ds k) + a) (show 0 < ten (tC ds k).size by omega)
                have m1 := md_lt (vl (tC ds k) + a) (show 0 < ten (tC ds k).size by omega)
                obtain ⟨hv0, hv1⟩ := hvb
                obtain ⟨hz0, hz1⟩ := hzz
                have HSS := hid (show (slC (tC ds k) a).size ≤ maxLen by rw [slC, shB_size]; unfold maxLen; omega)
                have hSH := fun W => (show Calls Tryz.prog 39 #[.int .i64 (md (vl (tC ds k) + a) (ten (tC ds k).size)), .int .i64 (tC ds k).size] W (RetS W (slC (tC ds k) a)) from c_showNumber _ _ W m0 (by omega) (by omega))
                have HSH := hid hSH
                have HQ2 := hid (show k < ds.length by rw [HLD.out]; exact q2)
                clear hSH ht hr hle
                go_wp2_with fail
                refine (c_iValueOf (tC ds k) HCVk.out _).mono ?_
                rintro e wz ⟨rfl, rfl⟩
                go_wp2_with fail
                refine (c_powerOfTen (tC ds k).size _ (by omega)).mono ?_
                rintro e wz ⟨rfl, rfl⟩
                go_wp2_with fail
                refine (c_modulo (vl (tC ds k) + a) (ten (tC ds k).size) _ (by omega) (by omega)).mono ?_
                rintro e wz ⟨rfl, rfl⟩
                go_wp2_with fail
                refine (HSH.out _).mono ?_
                rintro e w3 ⟨rfl, c3⟩
                have s3 := c3.size
                have r3 := HRW.out.below c3 (Nat.le_refl _)
                have hB3 := hB.below c3 hB.lt
                have b3 := hbel.trans (c3.mono hbs)
                obtain ⟨ck3, fk3⟩ := r3.at HQ2.out
                have r4 := r3.set HQ2.out HSS.out
                have hgl := r3.lt.1
                have b4 := b3.setCell (p := ⟨g, k, none⟩) hgl (.string (slC (tC ds k) a))
                have hB4 : Blk (w3.setCell ⟨g, k, none⟩ (.string (slC (tC ds k) a))) gR ys := (Below.heap_setCell w3 ⟨g, k, none⟩ _ gR (Ne.symm hgR)).trans hB3
                rw [← HSE.out] at r4
                obtain ⟨w4, hw4⟩ : ∃ x, w3.setCell ⟨g, k, none⟩ (.string (slC (tC ds k) a)) = x := ⟨_, rfl⟩
                have s4 : wr.heap.size ≤ w4.heap.size := by rw [← hw4]; simpa using s3
                rw [hw4] at r4 b4 hB4
                replace r4 := r4.up s4
                clear r3 hB3 b3 c3 hck HSH
                have hle : es.length = cs.length := HLE.out
                have c0 := (r4.at (show 0 < es.length by omega)).1
                go_wp2_with fail
                refine (c_signed (tC es 0) HCV0.out _).mono ?_
                rintro e wx ⟨rfl, rfl⟩
                have cR := hB4.cell j (by rw [HYL.out]; exact hlt)
                have fR := hB4.free j
                have hB5 := hB4.set j (sgN (tC es 0))
                have r5 := r4.cong (w' := w4.setCell ⟨gR, j, none⟩ (.int .i64 (sgN (tC es 0)))) (hi' := (w4.setCell ⟨gR, j, none⟩ (.int .i64 (sgN (tC es 0)))).heap.size) (Below.heap_setCell w4 ⟨gR, j, none⟩ _ g hgR) (by simp)
                have b5 := b4.setCell (p := ⟨gR, j, none⟩) hRl (.int .i64 (sgN (tC es 0)))
                have s5 := b5.size
                have hgR5 : gR < (w4.setCell ⟨gR, j, none⟩ (.int .i64 (sgN (tC es 0)))).heap.size := hB5.lt
                obtain ⟨w5, hw5⟩ : ∃ x, w4.setCell ⟨gR, j, none⟩ (.int .i64 (sgN (tC es 0))) = x := ⟨_, rfl⟩
                rw [hw5] at hB5 r5 b5 s5 hgR5
                go_wp2_with fail
                refine (c_turnedOnce _ es _ HEes.out r5.isT).mono ?_
                rintro e w6 ⟨g6, cap6, rfl, r6, c6⟩
                have HR6 := hid r6
                have hg6 := r6.lt
                have HC6 := hid c6
                clear r6 c6 r5 r4 hw5 c0 cR fR
                go_wp2
                go_roundw
                case rel =>
                  refine ⟨j + 1, g6, cap6, ys.set j (sgN (tC es 0)), by omega, by go_num, by rw [HL6.out], ?_, by omega, hB5.below HC6.out hgR5, by show _ = _; rw [List.length_set]; exact HYL.out, ?_, b5.trans (HC6.out.mono s5)⟩
                  · have := HR6.out
                    rw [HL6.out] at this
                    show RwT _ _ _ _ _
                    rw [HCN.out]
                    exact this.down s5
                  · intro i hi
                    by_cases e : i = j
                    · subst e; rw [el_set_same (by rw [HYL.out]; exact hlt)]; exact HRJ.out
                    · rw [el_set_other (by omega)]; exact HYS.out i (by omega)
                case measure => simp [intOf]; omega
              · have HSE := hid (show es = ds by rw [HSD.out, if_neg ht])
                have ht' : ((j : Int) == t) = false := by simpa using ht
                have r4 := HRW.out
                rw [← HSE.out] at r4
                have hB4 := hB
                have b4 := hbel
                clear ht
                have c0 := (r4.at (show 0 < es.length by omega)).1
                go_wp2_with fail
                refine (c_signed (tC es 0) HCV0.out _).mono ?_
                rintro e wx ⟨rfl, rfl⟩
                have cR := hB4.cell j (by rw [HYL.out]; exact hlt)
                have fR := hB4.free j
                have hB5 := hB4.set j (sgN (tC es 0))
                have r5 := r4.cong (w' := wr.setCell ⟨gR, j, none⟩ (.int .i64 (sgN (tC es 0)))) (hi' := (wr.setCell ⟨gR, j, none⟩ (.int .i64 (sgN (tC es 0)))).heap.size) (Below.heap_setCell wr ⟨gR, j, none⟩ _ g hgR) (by simp)
                have b5 := b4.setCell (p := ⟨gR, j, none⟩) hRl (.int .i64 (sgN (tC es 0)))
                have s5 := b5.size
                have hgR5 : gR < (wr.setCell ⟨gR, j, none⟩ (.int .i64 (sgN (tC es 0)))).heap.size := hB5.lt
                obtain ⟨w5, hw5⟩ : ∃ x, wr.setCell ⟨gR, j, none⟩ (.int .i64 (sgN (tC es 0))) = x := ⟨_, rfl⟩
                rw [hw5] at hB5 r5 b5 s5 hgR5
                go_wp2_with fail
                refine (c_turnedOnce _ es _ HEes.out r5.isT).mono ?_
                rintro e w6 ⟨g6, cap6, rfl, r6, c6⟩
                have HR6 := hid r6
                have hg6 := r6.lt
                have HC6 := hid c6
                clear r6 c6 r5 r4 hw5 c0 cR fR
                go_wp2
                go_roundw
                case rel =>
                  refine ⟨j + 1, g6, cap6, ys.set j (sgN (tC es 0)), by omega, by go_num, by rw [HL6.out], ?_, by omega, hB5.below HC6.out hgR5, by show _ = _; rw [List.length_set]; exact HYL.out, ?_, b5.trans (HC6.out.mono s5)⟩
                  · have := HR6.out
                    rw [HL6.out] at this
                    show RwT _ _ _ _ _
                    rw [HCN.out]
                    exact this.down s5
                  · intro i hi
                    by_cases e : i = j
                    · subst e; rw [el_set_same (by rw [HYL.out]; exact hlt)]; exact HRJ.out
                    · rw [el_set_other (by omega)]; exact HYS.out i (by omega)
                case measure => simp [intOf]; omega
            · obtain rfl : j = n := by omega
              have HYE := hid (show ys = (List.range j).map (rsR cs t k a) from list_ext (by rw [HYL.out]; simp) (fun i hi => by rw [HYL.out] at hi; rw [HYS.out i hi, el_map _ _ _ (by simpa using hi)]; simp))
              have HBR := hid (show Rw wr w.heap.size wr.heap.size (.slice (some ⟨gR, 0, none⟩) j j) ((List.range ((j : Nat) : Int).toNat).map (rsR cs t k a)) by
                have h := hB.rw hRl hB.lt (by rw [HYL.out]; unfold maxLen; omega) (R64.of_el fun i hi => by rw [HYL.out] at hi; rw [HYS.out i hi]; have := HRB.out i; omega)
                rw [HYL.out] at h
                rw [Int.toNat_natCast, ← HYE.out]; exact h)
              go_wp2
              go_ret2
              exact ⟨_, rfl, HBR.out, hbel⟩
        · have HOK := hid (show rsOk cs cnt t c a = false by rw [HD.out]; simp [hL])
          have HR := hid (rsF_no HOK.out)
          have hlg : c ≥ cs.length := by omega
          have HE := hid hE
          have HC := hid hC
          have HS := hid hS
          rw [HR.out, HOK.out]
          clear hE hC hS
          go_enter Tryz.func10, Tryz.ntmps10
          go_wp2_with fail
          refine (c_iEngineValid _ cs _ hv1).mono ?_
          rw [HE.out]
          rintro e wx ⟨rfl, cx⟩
          replace e0 := (cx.cell (p := ⟨w.heap.size, 0, none⟩) (World.block_lt_of_cell? _ _ e0)).trans e0
          go_wp2_with fail
          refine (c_countValid _ _).mono ?_
          rw [HC.out]
          rintro e wy ⟨rfl, rfl⟩
          go_wp2_with fail
          refine (c_slipValid _ _ _ _).mono ?_
          rw [HS.out]
          rintro e wy ⟨rfl, rfl⟩
          go_wp2
          go_ret2
          exact ⟨_, rfl, Rw.nil _ _ _, b1.trans (cx.mono s1)⟩
      · have hS' : slipB c t a = false := by simpa using hS
        have HOK := hid (show rsOk cs cnt t c a = false by rw [HD.out, hS']; simp)
        have HR := hid (rsF_no HOK.out)
        have HE := hid hE
        have HC := hid hC
        have HS := hid hS'
        rw [HR.out, HOK.out]
        clear hE hC hS hS'
        go_enter Tryz.func10, Tryz.ntmps10
        go_wp2_with fail
        refine (c_iEngineValid _ cs _ hv1).mono ?_
        rw [HE.out]
        rintro e wx ⟨rfl, cx⟩
        go_wp2_with fail
        refine (c_countValid _ _).mono ?_
        rw [HC.out]
        rintro e wy ⟨rfl, rfl⟩
        go_wp2_with fail
        refine (c_slipValid _ _ _ _).mono ?_
        rw [HS.out]
        rintro e wy ⟨rfl, rfl⟩
        go_wp2
        go_ret2
        exact ⟨_, rfl, Rw.nil _ _ _, b1.trans (cx.mono s1)⟩
    · have hC' : inB cnt 0 60 = false := by simpa using hC
      have HOK := hid (show rsOk cs cnt t c a = false by rw [HD.out, hC']; simp)
      have HR := hid (rsF_no HOK.out)
      have HE := hid hE
      have HC := hid hC'
      rw [HR.out, HOK.out]
      clear hE hC hC'
      go_enter Tryz.func10, Tryz.ntmps10
      go_wp2_with fail
      refine (c_iEngineValid _ cs _ hv1).mono ?_
      rw [HE.out]
      rintro e wx ⟨rfl, cx⟩
      go_wp2_with fail
      refine (c_countValid _ _).mono ?_
      rw [HC.out]
      rintro e wy ⟨rfl, rfl⟩
      go_wp2
      go_ret2
      exact ⟨_, rfl, Rw.nil _ _ _, b1.trans (cx.mono s1)⟩
  · have hE' : EGV cs = false := by simpa using hE
    have HOK := hid (show rsOk cs cnt t c a = false by rw [HD.out, hE']; simp)
    have HR := hid (rsF_no HOK.out)
    have HE := hid hE'
    rw [HR.out, HOK.out]
    clear hE hE'
    go_enter Tryz.func10, Tryz.ntmps10
    go_wp2_with fail
    refine (c_iEngineValid _ cs _ hv1).mono ?_
    rw [HE.out]
    rintro e wx ⟨rfl, cx⟩
    go_wp2
    go_ret2
    exact ⟨_, rfl, Rw.nil _ _ _, b1.trans (cx.mono s1)⟩
end Go.Proofs.YtlinkeemccnfmaaGreatDoor
