/- What is proved here: those statements of Dsl2 that this claim needs. -/
import Derived.Test.YtlinkeemccnfmaaGreatDoorDsl
set_option linter.unusedVariables false
set_option linter.unusedSimpArgs false
namespace Go.Proofs.YtlinkeemccnfmaaGreatDoor
open Go.RowKit
def RetDiag (w : World) (d : Int × Int × Int × Bool) (e : Ending) (w' : World) : Prop :=
  e = .returned (.tuple #[.int .i64 d.1, .int .i64 d.2.1, .int .i64 d.2.2.1, .bool d.2.2.2]) ∧ Below w.heap.size w w'
theorem diag_no {xs ys : List Int} (h : alike2 xs ys = false) : diag xs ys = (0, 0, 0, false) := by
  unfold diag; unfold alike2 at h; rw [h]; rfl
theorem diag_none {xs ys : List Int} (h : alike2 xs ys = true) (hf : firstF xs ys = -1) : diag xs ys = (0, 0, 0, false) := by
  unfold diag; unfold alike2 at h; rw [h, hf]; rfl
theorem diag_some {xs ys : List Int} {f c : Nat} (h : alike2 xs ys = true) (hf : firstF xs ys = f) (hd : dgF (wrF xs ys) f 0 (dgN f) = some c) : diag xs ys = ((c : Int), (f : Int) - c, el (wrF xs ys) f, true) := by
  unfold diag; unfold alike2 at h; rw [h, hf]
  show (match dgF (wrF xs ys) f 0 (dgN f) with | some c => _ | none => _) = _
  rw [hd]
theorem diag_not {xs ys : List Int} {f : Nat} (h : alike2 xs ys = true) (hf : firstF xs ys = f) (hd : dgF (wrF xs ys) f 0 (dgN f) = none) : diag xs ys = (0, 0, 0, false) := by
  unfold diag; unfold alike2 at h; rw [h, hf]
  show (match dgF (wrF xs ys) f 0 (dgN f) with | some c => _ | none => _) = _
  rw [hd]
theorem dgF_hit {W : List Int} {f c n : Nat} (h : expl W c ((f : Int) - c) (el W f) = true) : dgF W f c (n + 1) = some c := by unfold dgF; rw [if_pos h]
theorem dgF_miss {W : List Int} {f c n : Nat} (h : expl W c ((f : Int) - c) (el W f) = false) : dgF W f c (n + 1) = dgF W f (c + 1) n := by
  rw [dgF, if_neg (by simp [h])]
theorem slipOk_of {c t a : Int} {n : Nat} (h : slipB c t a = true) (hn : n ≤ 60) : slipOk c t a n = true := by
  unfold slipOk; rw [h, inB_yes (by omega) (by omega)]; rfl
theorem firstF_cases (xs ys : List Int) : firstF xs ys = -1 ∨ ∃ f : Nat, firstF xs ys = f ∧ f < xs.length := by
  rcases fdF_spec xs ys xs.length 0 with ⟨h1, _⟩ | ⟨f, h1, _, h3, _⟩
  · exact .inl h1
  · exact .inr ⟨f, h1, by omega⟩

theorem wr_full {xs ys zs : List Int} {n : Nat} (hx : xs.length = n) (hz : zs.length = n) (h : zs.take n = (wrF xs ys).take n) : zs = wrF xs ys := by
  rw [List.take_of_length_le (by omega), List.take_of_length_le (by rw [wrF_len]; omega)] at h
  exact h
set_option maxHeartbeats 1600000 in
theorem c_iDiagnoseSlip (w : World) (v : Value) (xs : List Int) (hv : IsI w w.heap.size v xs) (u : Value) (ys : List Int) (hu : IsI w w.heap.size u ys) :
    Calls Tryz.prog 18 #[v, u] w (RetDiag w (diag xs ys)) := by
  obtain ⟨a, cap, hva, hm, -, hc⟩ := id hv
  subst hva
  obtain ⟨a', cap', hua, hm', -, hc'⟩ := id hu
  subst hua
  unfold maxLen at hm hm'
  by_cases hA : alike2 xs ys = true
  · have HA := hid hA
    have hA2 := hA
    unfold alike2 at hA2
    simp only [Bool.and_eq_true, decide_eq_true_eq] at hA2
    obtain ⟨hT, hT', hl⟩ := hA2
    have h1 := (TB_iff.1 hT).2.1
    have HX := hid (TB_Bd hT)
    have HY := hid (TB_Bd hT')
    have HW := hid (wrF_len xs ys)
    have HFF : Hid (firstF xs ys = fj xs ys xs.length) := rfl
    generalize hnx : xs.length = n at *
    have hny : ys.length = n := hl.symm
    have HNX := hid hnx
    have HNY := hid hny
    rw [hny] at hu hc' hm' ⊢
    have HM := made_zero n
    have hmk := mk_ints Tryz.underlying23 Tryz.infoInt n (by omega)
    generalize madeCells #[Value.int .i64 0] n = mc at *
    have HM' := hid HM
    clear HM hnx hny hl hA hT hT'
    go_enter Tryz.func18, Tryz.ntmps18
    go_wp2_with fail
    refine (c_tablesAlike _ _ xs ys _ _ _ hv hu).mono ?_
    rw [HA.out]
    rintro e w' ⟨rfl, rfl⟩
    go_wp2
    go_loopw [9, 24] (fun f i wr => ∃ (j : Nat) (zs : List Int), j ≤ n ∧ i = .int .i64 j ∧ f = .int .i64 (fj xs ys j) ∧ Blk wr w.heap.size zs ∧ zs.length = n ∧ zs.take j = (wrF xs ys).take j ∧ Below w.heap.size w wr) (fun _ i _ => n - (intOf i).toNat)
    case atStart => exact ⟨0, List.replicate n 0, Nat.zero_le _, rfl, rfl, Blk.new HM'.out, by simp, by simp, (Below.refl _ _).alloc (Nat.le_refl _) _⟩
    case round =>
      obtain ⟨j, zs, hj, rfl, rfl, HB, hlen, HTk, hbel⟩ := hrel
      have HTk' := hid HTk
      have HLz := hid hlen
      clear HTk hlen hmk
      by_cases hlt : j < n
      · obtain ⟨b, off, rfl, hb, hcell⟩ := hc j (by omega)
        obtain ⟨b', off', rfl, hb', hcell'⟩ := hc' j (by omega)
        have hce := (hbel.cell (p := ⟨b, off + j, none⟩) hb).trans (hcell j hlt)
        have hce' := (hbel.cell (p := ⟨b', off' + j, none⟩) hb').trans (hcell' j hlt)
        obtain ⟨r1, r2⟩ := HX.out j (by rw [HNX.out]; omega)
        obtain ⟨r3, r4⟩ := HY.out j (by rw [HNY.out]; exact hlt)
        have hd := HB.cell j (by rw [HLz.out]; exact hlt)
        have hf := HB.free j
        have k2 : IntKind.i64.wrap (el ys j - el xs j) = el ys j - el xs j := IntWalk.i64_in _ (by omega)
        have k7 : 0 ≤ (j : Int) := by omega
        have k8 : (j : Int) < (n : Int) := by omega
        have hne : ¬ b = w.heap.size := by omega
        have hne' : ¬ b' = w.heap.size := by omega
        have HB2 := HB.set j (el ys j - el xs j)
        have hd2 : ((wr.setCell ⟨w.heap.size, j, none⟩ (.int .i64 (el ys j - el xs j))).drew).cell? ⟨w.heap.size, j, none⟩ = some (.int .i64 (el ys j - el xs j)) := by
          have := HB2.cell j (by rw [List.length_set, HLz.out]; exact hlt)
          rw [el_set_same (by rw [HLz.out]; exact hlt)] at this
          exact this
        have HTN := hid (take_set (x := el ys j - el xs j) (xs := wrF xs ys) (ys := zs) (j := j) (by rw [HW.out]; exact hlt) (by rw [HLz.out, HW.out]) (wrF_el (by rw [HNX.out]; exact hlt)).symm HTk'.out)
        have HF := hid (fj_bd xs ys j)
        clear hc hcell hc' hcell'
        have hb2 : Below w.heap.size w (wr.setCell ⟨w.heap.size, j, none⟩ (.int .i64 (el ys j - el xs j))).drew := (hbel.setCell (p := ⟨w.heap.size, j, none⟩) (Nat.le_refl _) _).drew
        by_cases he : el xs j = el ys j
        · have HE := hid (fj_same (xs := xs) (ys := ys) he)
          have he1 : (el ys j - el xs j != 0) = false := by simp; omega
          clear he
          go_wp2_with fail
          go_region_held3 (fun w' => w'.cell? ⟨b, off + j, none⟩ = some (.int .i64 (el xs j)) ∧ w'.cell? ⟨b', off' + j, none⟩ = some (.int .i64 (el ys j)))
            (first | exact ⟨cell_other_d hne hce, cell_other_d hne' hce'⟩ | exact ⟨hce, hce'⟩ | go_keep)
            (fail)
          go_wp2
          go_roundw
          case rel => exact ⟨j + 1, _, by omega, by go_num, by rw [HE.out], HB2, by simpa using HLz.out, HTN.out, hb2⟩
          case measure => simp [intOf]; omega
        · have HE := hid he
          have he1 : (el ys j - el xs j != 0) = true := by simp; omega
          clear he
          by_cases hg : fj xs ys j < 0
          · have HG := hid (fj_new hg HE.out)
            go_wp2_with fail
            go_region_held3 (fun w' => w'.cell? ⟨b, off + j, none⟩ = some (.int .i64 (el xs j)) ∧ w'.cell? ⟨b', off' + j, none⟩ = some (.int .i64 (el ys j)))
              (first | exact ⟨cell_other_d hne hce, cell_other_d hne' hce'⟩ | exact ⟨hce, hce'⟩ | go_keep)
              (fail)
            go_wp2
            go_roundw
            case rel => exact ⟨j + 1, _, by omega, by go_num, by rw [HG.out], HB2, by simpa using HLz.out, HTN.out, hb2⟩
            case measure => simp [intOf]; omega
          · have HG := hid (fj_old (xs := xs) (ys := ys) (j := j) (by omega))
            have hg' : 0 ≤ fj xs ys j := by omega
            go_wp2_with fail
            go_region_held3 (fun w' => w'.cell? ⟨b, off + j, none⟩ = some (.int .i64 (el xs j)) ∧ w'.cell? ⟨b', off' + j, none⟩ = some (.int .i64 (el ys j)))
              (first | exact ⟨cell_other_d hne hce, cell_other_d hne' hce'⟩ | exact ⟨hce, hce'⟩ | go_keep)
              (fail)
            go_wp2
            go_roundw
            case rel => exact ⟨j + 1, _, by omega, by go_num, by rw [HG.out], HB2, by simpa using HLz.out, HTN.out, hb2⟩
            case measure => simp [intOf]; omega
      · obtain rfl : j = n := by omega
        obtain rfl := wr_full HNX.out HLz.out HTk'.out
        clear HTk' HLz hc hc'
        have hwi : ∀ (W : World), Blk W w.heap.size (wrF xs ys) → IsI W (w.heap.size + 1) (.slice (some ⟨w.heap.size, 0, none⟩) j j) (wrF xs ys) := by
          intro W hB
          have := hB.isI (hi := w.heap.size + 1) (by omega) (by rw [HW.out]; unfold maxLen; omega) (R64.of_el fun k hk => by
            have hk2 : k < xs.length := by rw [wrF_len] at hk; exact hk
            rw [wrF_el hk2]
            have e1 := HX.out k hk2
            have e2 := HY.out k (by rw [HNY.out, ← HNX.out]; exact hk2)
            omega)
          rw [HW.out] at this
          exact this
        have HWI := hid hwi
        clear hwi
        rcases firstF_cases xs ys with hf | ⟨f, hf, hfl⟩
        · have HR := hid (diag_none HA.out hf)
          have hf2 : fj xs ys j = -1 := by rw [← HFF.out]; exact hf
          rw [hf2]
          clear hf hf2
          go_wp2
          refine bodyPost_ret (v := .tuple #[.int .i64 0, .int .i64 0, .int .i64 0, .bool false]) (by simp [results, Tryz.results18, go_sem]) rfl ?_
          exact ⟨by rw [HR.out], hbel⟩
        · have hf2 : fj xs ys j = f := by rw [← HFF.out]; exact hf
          rw [hf2]
          have HF := hid hf
          rw [HNX.out] at hfl
          have HWE := hid (wrF_el (xs := xs) (ys := ys) (k := f) (by rw [HNX.out]; exact hfl))
          obtain ⟨x0, x1⟩ := HX.out f (by rw [HNX.out]; omega)
          obtain ⟨y0, y1⟩ := HY.out f (by rw [HNY.out]; exact hfl)
          have hwb : -2000000000 ≤ el (wrF xs ys) f ∧ el (wrF xs ys) f ≤ 2000000000 := by rw [HWE.out]; omega
          have hs0 := HB.lt
          clear hf hf2 HWE x0 x1 y0 y1 hlt
          have hf0 : ¬ (f : Int) < 0 := by omega
          rcases Int.lt_or_le 6 (f : Int) with h6 | h6
          all_goals
            go_wp2_with fail
            go_loopw [11] (fun cc wi => ∃ c : Nat, c ≤ dgN f ∧ cc = .int .i64 c ∧ Hid (dgF (wrF xs ys) f 0 (dgN f) = dgF (wrF xs ys) f c (dgN f - c)) ∧ Blk wi w.heap.size (wrF xs ys) ∧ Below w.heap.size w wi) (fun cc _ => dgN f - (intOf cc).toNat)
            case atStart => exact ⟨0, Nat.zero_le _, rfl, rfl, HB, hbel⟩
            case round =>
              clear HB hbel
              obtain ⟨c, hcN, rfl, HD, HB, bc⟩ := hrel
              have hN : dgN f = min f 6 + 1 := rfl
              have hs := HB.lt
              have hcw := HB.cell f (by rw [HW.out]; exact hfl)
              have k2 : (f : Int) < j := by omega
              have k4 : 0 ≤ (f : Int) := by omega
              by_cases hlt : c < dgN f
              · have hcf : c ≤ f := by omega
                have hc6 : c ≤ 6 := by omega
                have k1 : IntKind.i64.wrap ((f : Int) - c) = (f : Int) - c := IntWalk.i64_in _ (by omega)
                have HEX : Hid (expl (wrF xs ys) c ((f : Int) - c) (el (wrF xs ys) f) = (slipB c ((f : Int) - c) (el (wrF xs ys) f) && eqL (slipF c ((f : Int) - c) (el (wrF xs ys) f) (j : Int)) (wrF xs ys))) := by
                  unfold expl Hid; rw [HW.out]
                have HDN := hid (show dgN f - c = (dgN f - (c + 1)) + 1 by omega)
                go_wp2_with fail
                refine (c_iSlipEffect _ _ _ _ _).mono ?_
                by_cases hB : slipB c ((f : Int) - c) (el (wrF xs ys) f) = true
                · have hok := slipOk_of hB h1
                  rw [hok]
                  rintro e w2 ⟨v2, rfl, hr2, b2⟩
                  have HB2 := HB.below b2 hs
                  have b3 := bc.trans (b2.mono (by omega))
                  have hi2 := hr2.isI
                  have hwi2 := HWI.out _ HB2
                  obtain ⟨a2, cap2, rfl⟩ : ∃ a cap, v2 = .slice a (slipF c ((f : Int) - c) (el (wrF xs ys) f) (j : Int)).length cap := ⟨_, _, hi2.choose_spec.choose_spec.1⟩
                  go_wp2_with fail
                  refine (c_EqualI _ _ _ _ _ _ _ hi2 hwi2).mono ?_
                  by_cases hE : eqL (slipF c ((f : Int) - c) (el (wrF xs ys) f) (j : Int)) (wrF xs ys) = true
                  · rw [hE]
                    rintro e w3 ⟨rfl, c3⟩
                    have b4 := b3.trans (c3.below (B := w.heap.size) (by omega) (by have := b3.size; omega))
                    have hcw3 := (HB2.chg c3 (by omega)).cell f (by rw [HW.out]; exact hfl)
                    have HR := hid (diag_some HA.out HF.out (by rw [HD.out, HDN.out]; exact dgF_hit (by rw [HEX.out, hB, hE]; rfl)))
                    clear c3 hE hB hok HB2 hi2 hwi2 hr2 b2
                    go_wp2
                    go_quiet (fail)
                    go_wp2
                    refine bodyPost_ret (v := .tuple #[.int .i64 c, .int .i64 ((f : Int) - c), .int .i64 (el (wrF xs ys) f), .bool true]) (by simp [results, Tryz.results18, go_sem]) rfl ?_
                    exact ⟨by rw [HR.out], bel_drewN b4 nq⟩
                  · have hE' : eqL (slipF c ((f : Int) - c) (el (wrF xs ys) f) (j : Int)) (wrF xs ys) = false := by simpa using hE
                    rw [hE']
                    rintro e w3 ⟨rfl, c3⟩
                    have b4 := b3.trans (c3.below (B := w.heap.size) (by omega) (by have := b3.size; omega))
                    have HB3 := HB2.chg c3 (by omega)
                    have HR := hid (dgF_miss (n := dgN f - (c + 1)) (show expl (wrF xs ys) c ((f : Int) - c) (el (wrF xs ys) f) = false by rw [HEX.out, hB, hE']; rfl))
                    clear c3 hE hE' hB hok HB2 hi2 hwi2 hr2 b2
                    go_wp2
                    go_roundw
                    case rel => exact ⟨c + 1, by omega, by go_num, by show _ = _; rw [HD.out, HDN.out]; exact HR.out, HB3, b4⟩
                    case measure => simp [intOf]; omega
                · have hB' : slipB c ((f : Int) - c) (el (wrF xs ys) f) = false := by simpa using hB
                  have hok : slipOk c ((f : Int) - c) (el (wrF xs ys) f) (j : Int) = false := by unfold slipOk; rw [hB']; rfl
                  rw [hok]
                  rintro e w2 ⟨v2, rfl, hr2, b2⟩
                  have HB2 := HB.below b2 hs
                  have b3 := bc.trans (b2.mono (by omega))
                  have HR := hid (dgF_miss (n := dgN f - (c + 1)) (show expl (wrF xs ys) c ((f : Int) - c) (el (wrF xs ys) f) = false by rw [HEX.out, hB']; rfl))
                  clear hB hok hr2 b2
                  go_wp2
                  go_roundw
                  case rel => exact ⟨c + 1, by omega, by go_num, by show _ = _; rw [HD.out, HDN.out]; exact HR.out, HB2, b3⟩
                  case measure => simp [intOf]; omega
              · have HR := hid (diag_not HA.out HF.out (by rw [HD.out, show dgN f - c = 0 by omega]; rfl))
                have hc6 : if 6 < (f : Int) then 6 < c else f < c := by split <;> omega
                first | rw [if_pos h6] at hc6 | rw [if_neg (by omega)] at hc6
                clear k2 k4
                go_wp2
                refine bodyPost_ret (v := .tuple #[.int .i64 0, .int .i64 0, .int .i64 0, .bool false]) (by simp [results, Tryz.results18, go_sem]) rfl ?_
                exact ⟨by rw [HR.out], bc⟩
  · have hA2 : alike2 xs ys = false := by simpa using hA
    have HA := hid hA2
    rw [diag_no HA.out]
    clear hA hA2 hc hc'
    go_enter Tryz.func18, Tryz.ntmps18
    go_wp2_with fail
    refine (c_tablesAlike _ _ xs ys _ _ _ hv hu).mono ?_
    rw [HA.out]
    rintro e w' ⟨rfl, rfl⟩
    go_wp2
    refine bodyPost_ret (v := .tuple #[.int .i64 0, .int .i64 0, .int .i64 0, .bool false]) (by simp [results, Tryz.results18, go_sem]) rfl ?_
    exact ⟨rfl, Below.refl _ _⟩
end Go.Proofs.YtlinkeemccnfmaaGreatDoor
