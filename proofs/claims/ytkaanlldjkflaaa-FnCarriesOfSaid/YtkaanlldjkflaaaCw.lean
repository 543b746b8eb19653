/- What is proved here: how many wheels differ between two engines (plain facts). -/
import Derived.Test.YtkaanlldjkflaaaEgv
set_option linter.unusedVariables false
set_option linter.unusedSimpArgs false
set_option maxRecDepth 100000
namespace Go.Proofs.Ytkaanlldjkflaaa
open Go.RowKit

/-- How many of the first bytes of two columns differ. -/
def cwR (a b : ByteArray) : Nat → Int
  | 0 => 0
  | k + 1 => cwR a b k + (if bN a k = bN b k then 0 else 1)
theorem cwR_bd {a b : ByteArray} : ∀ k : Nat, 0 ≤ cwR a b k ∧ cwR a b k ≤ (k : Int) := by
  intro k
  induction k with
  | zero => simp [cwR]
  | succ k ih => rw [cwR]; split <;> omega
/-- How many bytes of the first columns differ. -/
def cwT (cs ds : List ByteArray) : Nat → Int
  | 0 => 0
  | k + 1 => cwT cs ds k + cwR (tC cs k) (tC ds k) (tC cs k).size
theorem cwT_bd {cs ds : List ByteArray} : ∀ k : Nat, (∀ i, i < k → (tC cs i).size ≤ 12) → 0 ≤ cwT cs ds k ∧ cwT cs ds k ≤ 12 * (k : Int) := by
  intro k
  induction k with
  | zero => intro _; simp [cwT]
  | succ k ih =>
    intro h
    have h1 := ih (fun i hi => h i (by omega))
    have h2 := h k (by omega)
    have h3 := cwR_bd (a := tC cs k) (b := tC ds k) (tC cs k).size
    rw [cwT]; omega
/-- Whether two engines can be compared, and how many wheels differ. -/
def cwB (cs ds : List ByteArray) : Bool := EGV cs && (EGV ds && decide (cs.length = ds.length ∧ (tC cs 0).size = (tC ds 0).size))
theorem cwB_iff {cs ds : List ByteArray} : cwB cs ds = true ↔ EGV cs = true ∧ EGV ds = true ∧ cs.length = ds.length ∧ (tC cs 0).size = (tC ds 0).size := by simp only [cwB, Bool.and_eq_true, decide_eq_true_eq]
def cwF (cs ds : List ByteArray) : Int := if cwB cs ds then cwT cs ds cs.length else -1
theorem cwF_yes {cs ds : List ByteArray} (h : cwB cs ds = true) : cwF cs ds = cwT cs ds cs.length := by simp [cwF, h]
theorem cwF_no {cs ds : List ByteArray} (h : cwB cs ds = false) : cwF cs ds = -1 := by simp [cwF, h]
theorem c_iChangeWheels (v u : Value) (cs ds : List ByteArray) (w : World) (hv : IsT w w.heap.size v cs) (hu : IsT w w.heap.size u ds) :
    Calls Try.prog 11 #[.agg #[v], .agg #[u]] w fun e w' => e = .returned (.int .i64 (cwF cs ds)) ∧ Below w.heap.size w w' := by
  obtain ⟨av, cv, hav⟩ : ∃ a cap, v = .slice a cs.length cap := ⟨_, _, hv.choose_spec.choose_spec.1⟩
  obtain ⟨au, cu, hau⟩ : ∃ a cap, u = .slice a ds.length cap := ⟨_, _, hu.choose_spec.choose_spec.1⟩
  subst hav hau
  have c1 := RetRow.e1 w (.cells #[.slice av cs.length cv] 27)
  have c2 := RetRow.e1 (w.alloc (.cells #[.slice av cs.length cv] 27)) (.cells #[.slice au ds.length cu] 27)
  have hs1 : (w.alloc (.cells #[.slice av cs.length cv] 27)).heap.size = w.heap.size + 1 := by simp
  have e0 := (c2.cell (p := ⟨w.heap.size, 0, none⟩) (show w.heap.size < _ by omega)).trans (eng_cell w (.slice av cs.length cv) 27)
  have e1 := eng_cell (w.alloc (.cells #[.slice av cs.length cv] 27)) (.slice au ds.length cu) 27
  rw [hs1] at e1
  have c3 := c1.trans (c2.mono (by omega))
  have hs3 := c3.size
  have hv1 := (hv.below c3 (Nat.le_refl _)).up hs3
  have hu1 := (hu.below c3 (Nat.le_refl _)).up hs3
  have e0r := eng_alloc w (.slice av cs.length cv) 27
  have l0 := World.block_lt_of_cell? _ _ e0
  have l1 := World.block_lt_of_cell? _ _ e1
  clear c1 c2 hv hu e0r
  obtain ⟨wA, hwA⟩ : ∃ x, (w.alloc (.cells #[.slice av cs.length cv] 27)).alloc (.cells #[.slice au ds.length cu] 27) = x := ⟨_, rfl⟩
  rw [hwA] at e0 e1 c3 hv1 hu1 hs3 l0 l1
  by_cases hE : EGV cs = true
  · have HE := hid hE
    by_cases hD : EGV ds = true
    · have HDD := hid hD
      obtain ⟨⟨n1, n7⟩, hcs⟩ := EGV_iff.1 hE
      obtain ⟨⟨m1, m7⟩, hds⟩ := EGV_iff.1 hD
      have HCS := hid hcs
      have HDS := hid hds
      by_cases hlen : cs.length = ds.length
      · have HLEN := hid hlen
        have t1 : ((cs.length : Int) != (ds.length : Int)) = false := by rw [hlen]; simp
        clear hE hD hcs hds hlen
        go_enter Try.func11, Try.ntmps11
        go_wp2_with fail
        refine (c_iEngineValid _ cs _ hv1).mono ?_
        rw [HE.out]
        rintro e wx ⟨rfl, cx⟩
        replace e0 := (cx.cell (p := ⟨w.heap.size, 0, none⟩) l0).trans e0
        replace e1 := (cx.cell (p := ⟨w.heap.size + 1, 0, none⟩) l1).trans e1
        have sx := cx.size
        replace hu1 := (hu1.below cx (Nat.le_refl _)).up sx
        replace hv1 := (hv1.below cx (Nat.le_refl _)).up sx
        replace l0 := World.block_lt_of_cell? _ _ e0
        replace l1 := World.block_lt_of_cell? _ _ e1
        go_wp2_with fail
        refine (c_iEngineValid _ ds _ hu1).mono ?_
        rw [HDD.out]
        rintro e wy ⟨rfl, cy⟩
        replace e0 := (cy.cell (p := ⟨w.heap.size, 0, none⟩) l0).trans e0
        replace e1 := (cy.cell (p := ⟨w.heap.size + 1, 0, none⟩) l1).trans e1
        have c4 := c3.trans ((cx.mono hs3).trans (cy.mono (by omega)))
        obtain ⟨a', c', hva, -, hcv⟩ := hv1.below cy (Nat.le_refl _)
        obtain ⟨a'', c'', hua, -, hcu⟩ := hu1.below cy (Nat.le_refl _)
        simp only [Value.slice.injEq, true_and] at hva hua
        obtain ⟨rfl, rfl⟩ := hva
        obtain ⟨rfl, rfl⟩ := hua
        have HCV := hid hcv
        have HCU := hid hcu
        obtain ⟨b, o, rfl, -, g0, s0⟩ := hcv 0 (by omega)
        obtain ⟨b2, o2, rfl, -, d0, r0⟩ := hcu 0 (by omega)
        rw [Nat.add_zero] at g0 d0
        have n2 : (0 : Int) < cs.length := by omega
        have m2 : (0 : Int) < ds.length := by omega
        clear hcv hcu cx cy c3 hv1 hu1
        by_cases hsz : (tC cs 0).size = (tC ds 0).size
        · have HSZ := hid hsz
          have t2 : (((tC cs 0).size : Int) != ((tC ds 0).size : Int)) = false := by rw [hsz]; simp
          have HR := hid (cwF_yes (cwB_iff.2 ⟨HE.out, HDD.out, HLEN.out, hsz⟩))
          have HS12 := hid (fun i (hi : i < cs.length) => (CV_iff.1 (HCS.out i hi).1).1)
          have HSE := hid (fun i (hi : i < cs.length) => (show (tC ds i).size = (tC cs i).size by rw [(HCS.out i hi).2, (HDS.out i (by rw [← HLEN.out]; exact hi)).2, HSZ.out]))
          clear hsz
          go_wp2_with fail
          go_quiet (fail)
          go_wp2
          go_loopw [5, 40] (fun n i wr => ∃ (j : Nat) (T : Int), j ≤ cs.length ∧ i = .int .i64 j ∧ n = .int .i64 T ∧ Hid (T = cwT cs ds j) ∧ Chg 0 0 wy wr) (fun _ i _ => cs.length - (intOf i).toNat)
          case atStart => exact ⟨0, 0, Nat.zero_le _, rfl, rfl, rfl, (Chg.refl 0 0 wy).drewN _⟩
          case round =>
            obtain ⟨j, T, hj, rfl, rfl, HT, cr⟩ := hrel
            have cb := cr.below (B := wy.heap.size) (by omega) (Nat.le_refl _)
            by_cases hlt : j < cs.length
            · obtain ⟨b', o', hb', -, gj, sj⟩ := HCV.out j hlt
              obtain ⟨b2', o2', hb2', -, dj, rj⟩ := HCU.out j (by rw [← HLEN.out]; exact hlt)
              simp only [Option.some.injEq, Addr.mk.injEq, and_true] at hb' hb2'
              obtain ⟨rfl, rfl⟩ := hb'
              obtain ⟨rfl, rfl⟩ := hb2'
              have gj' := (cb.cell (p := ⟨b, o + j, none⟩) (World.block_lt_of_cell? _ _ gj)).trans gj
              have l0' := World.block_lt_of_cell? _ _ e0
              have l1' := World.block_lt_of_cell? _ _ e1
              have ldj := World.block_lt_of_cell? _ _ dj
              have q0 : (0 : Int) ≤ (j : Int) := by omega
              have q1 : (j : Int) < cs.length := by omega
              have h12 := (HS12.out j hlt).2
              go_wp2
              go_loopw [5, 47] (fun n i wk => ∃ (k : Nat) (S : Int), k ≤ (tC cs j).size ∧ i = .int .i64 k ∧ n = .int .i64 S ∧ Hid (S = T + cwR (tC cs j) (tC ds j) k) ∧ Chg 0 0 wy wk) (fun _ i _ => (tC cs j).size - (intOf i).toNat)
              case atStart => exact ⟨0, T, Nat.zero_le _, rfl, rfl, by show _ = _; simp [cwR], cr⟩
              case round =>
                obtain ⟨k, S, hk, rfl, rfl, HS, ck⟩ := hrel
                have cbk := ck.below (B := wy.heap.size) (by omega) (Nat.le_refl _)
                have f0 := (cbk.cell (p := ⟨w.heap.size, 0, none⟩) l0').trans e0
                have f1 := (cbk.cell (p := ⟨w.heap.size + 1, 0, none⟩) l1').trans e1
                have fj := (cbk.cell (p := ⟨b2, o2 + j, none⟩) ldj).trans dj
                by_cases hkl : k < (tC cs j).size
                · have k0 : (0 : Int) ≤ (k : Int) := by omega
                  have k1 : (k : Int) < (tC cs j).size := by omega
                  have k2 : (k : Int) < (tC ds j).size := by have := HSE.out j hlt; omega
                  have hSb : 0 ≤ S ∧ S ≤ 12 * j + k := by
                    have a1 := cwT_bd (cs := cs) (ds := ds) j (fun i hi => (HS12.out i (by omega)).2)
                    have a2 := cwR_bd (a := tC cs j) (b := tC ds j) k
                    have a3 := HT.out
                    have a4 := HS.out
                    omega
                  obtain ⟨hS0, hS1⟩ := hSb
                  have q2 : (j : Int) < ds.length := by have := HLEN.out; omega
                  by_cases hb : bN (tC cs j) k = bN (tC ds j) k
                  · have HB := hid hb
                    have t3 : ((((tC cs j)[k]'hkl).toNat : Int) != (((tC ds j)[k]'(by omega)).toNat : Int)) = false := by
                      rw [bN_eq hkl, bN_eq (show k < (tC ds j).size by omega)] at hb
                      rw [hb]; simp
                    clear hb
                    go_wp2_with fail
                    go_quiet (fail)
                    go_wp2
                    go_roundw
                    case rel => exact ⟨k + 1, S, by omega, by go_num, rfl, by show _ = _; rw [cwR, if_pos HB.out, HS.out]; omega, ck.drewN _⟩
                    case measure => simp [intOf]; omega
                  · have HB := hid hb
                    have t3 : ((((tC cs j)[k]'hkl).toNat : Int) != (((tC ds j)[k]'(by omega)).toNat : Int)) = true := by
                      rw [bN_eq hkl, bN_eq (show k < (tC ds j).size by omega)] at hb
                      simp; omega
                    clear hb
                    go_wp2_with fail
                    go_quiet (fail)
                    go_wp2
                    go_roundw
                    case rel => exact ⟨k + 1, S + 1, by omega, by go_num, by go_num, by show _ = _; rw [cwR, if_neg HB.out, HS.out]; omega, ck.drewN _⟩
                    case measure => simp [intOf]; omega
                · obtain rfl : k = (tC cs j).size := by omega
                  have HTS := hid (show S = cwT cs ds (j + 1) from by rw [HS.out, HT.out, cwT])
                  go_wp2
                  go_roundw
                  case rel => exact ⟨j + 1, S, by omega, by go_num, rfl, HTS, ck⟩
                  case measure => simp [intOf]; omega
            · obtain rfl : j = cs.length := by omega
              have HRR := hid (HR.out.trans HT.out.symm)
              go_wp2
              go_ret
              exact ⟨by rw [HRR.out]; rfl, c4.trans (cb.mono c4.size)⟩
        · have HR := hid (cwF_no (cs := cs) (ds := ds) (by simp [cwB, hsz]))
          have t2 : (((tC cs 0).size : Int) != ((tC ds 0).size : Int)) = true := by simp; omega
          go_wp2_with fail
          go_quiet (fail)
          go_wp2
          go_ret
          exact ⟨by rw [HR.out]; rfl, bel_drewN c4 _⟩
      · have HR := hid (cwF_no (cs := cs) (ds := ds) (by simp [cwB, hlen]))
        rw [HR.out]
        have t1 : ((cs.length : Int) != (ds.length : Int)) = true := by simp; omega
        clear hE hD hcs hds
        go_enter Try.func11, Try.ntmps11
        go_wp2_with fail
        refine (c_iEngineValid _ cs _ hv1).mono ?_
        rw [HE.out]
        rintro e wx ⟨rfl, cx⟩
        replace e0 := (cx.cell (p := ⟨w.heap.size, 0, none⟩) l0).trans e0
        replace e1 := (cx.cell (p := ⟨w.heap.size + 1, 0, none⟩) l1).trans e1
        have sx := cx.size
        replace hu1 := (hu1.below cx (Nat.le_refl _)).up sx
        replace l0 := World.block_lt_of_cell? _ _ e0
        replace l1 := World.block_lt_of_cell? _ _ e1
        go_wp2_with fail
        refine (c_iEngineValid _ ds _ hu1).mono ?_
        rw [HDD.out]
        rintro e wy ⟨rfl, cy⟩
        replace e0 := (cy.cell (p := ⟨w.heap.size, 0, none⟩) l0).trans e0
        replace e1 := (cy.cell (p := ⟨w.heap.size + 1, 0, none⟩) l1).trans e1
        have c4 := c3.trans ((cx.mono hs3).trans (cy.mono (by omega)))
        go_wp2
        go_ret
        exact ⟨rfl, c4⟩
    · have hD' : EGV ds = false := by simpa using hD
      have HR := hid (cwF_no (cs := cs) (ds := ds) (by simp [cwB, hD']))
      rw [HR.out]
      clear hE hD
      go_enter Try.func11, Try.ntmps11
      go_wp2_with fail
      refine (c_iEngineValid _ cs _ hv1).mono ?_
      rw [HE.out]
      rintro e wx ⟨rfl, cx⟩
      replace e1 := (cx.cell (p := ⟨w.heap.size + 1, 0, none⟩) l1).trans e1
      have sx := cx.size
      replace hu1 := (hu1.below cx (Nat.le_refl _)).up sx
      go_wp2_with fail
      refine (c_iEngineValid _ ds _ hu1).mono ?_
      rw [hD']
      rintro e wy ⟨rfl, cy⟩
      have c4 := c3.trans ((cx.mono hs3).trans (cy.mono (by omega)))
      go_wp2
      go_ret
      exact ⟨rfl, c4⟩
  · have hE' : EGV cs = false := by simpa using hE
    have HR := hid (cwF_no (cs := cs) (ds := ds) (by simp [cwB, hE']))
    rw [HR.out]
    clear hE
    go_enter Try.func11, Try.ntmps11
    go_wp2_with fail
    refine (c_iEngineValid _ cs _ hv1).mono ?_
    rw [hE']
    rintro e wx ⟨rfl, cx⟩
    go_wp2
    go_ret
    exact ⟨rfl, c3.trans (cx.mono hs3)⟩
end Go.Proofs.Ytkaanlldjkflaaa
