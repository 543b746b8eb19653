/- What is proved here: the walk of laws.FnChangeWheels. -/
import Derived.Test.YtkaanlldjkflaaaCws
import Derived.Test.YtkaanlldjkflaaaCwM
set_option linter.unusedVariables false
set_option linter.unusedSimpArgs false
set_option maxRecDepth 100000
namespace Go.Proofs.Ytkaanlldjkflaaa
open Go.RowKit

/-- A row of strings reads as before where a cell is written that held a slice. -/
theorem IsT.setEng {w : World} {B g n c : Nat} {v u : Value} {a : Option Addr} {t : TypeId} {cs : List ByteArray} (h : IsT w B v cs) (hg : w.heap[g]? = some (.cells #[.slice a n c] t (0, 0))) :
    IsT (w.setCell ⟨g, 0, none⟩ u) B v cs := by
  obtain ⟨av, cap, rfl, hm, hc⟩ := h
  refine ⟨av, cap, rfl, hm, fun i hi => ?_⟩
  obtain ⟨b, off, rfl, hb, hcell, hs⟩ := hc i hi
  have hne : ¬ b = g := by
    rintro rfl
    rw [row_cell hg] at hcell
    rcases Nat.eq_zero_or_pos (off + i) with e | e
    · rw [e] at hcell; simp at hcell
    · rw [Array.getElem?_eq_none (by simp; omega)] at hcell; cases hcell
  exact ⟨b, off, rfl, hb, cell_other hne hcell, hs⟩
theorem isT_eng {w : World} {B g k n n' c c' : Nat} {v u u' : Value} {a a' : Option Addr} {t t' : TypeId} {cs : List ByteArray} (h : IsT w B v cs) (hB : B ≤ w.heap.size) (hg : w.heap[g]? = some (.cells #[.slice a n c] t (0, 0))) (hk : (w.setCell ⟨g, 0, none⟩ u).heap[k]? = some (.cells #[.slice a' n' c'] t' (0, 0))) :
    IsT ((w.setCell ⟨g, 0, none⟩ u).setCell ⟨k, 0, none⟩ u') ((w.setCell ⟨g, 0, none⟩ u).setCell ⟨k, 0, none⟩ u').heap.size v cs :=
  ((h.setEng hg).setEng hk).up (by simpa using hB)
theorem c_DrawChangeWheels (w : World) (v : Value) (nb : Nat) (hv : IsBy w w.heap.size v nb) :
    Calls Try.prog 13 #[v] w (TwoEng w) := by
  have hs1 : (w.alloc (.cells #[.slice none 0 0] 27)).heap.size = w.heap.size + 1 := by simp
  have b1 := RetRow.e1 w (.cells #[.slice none 0 0] 27)
  have b2 := RetRow.e1 (w.alloc (.cells #[.slice none 0 0] 27)) (.cells #[.slice none 0 0] 27)
  have g0 := eng_alloc w (.slice none 0 0) 27
  have g1 := eng_alloc (w.alloc (.cells #[.slice none 0 0] 27)) (.slice none 0 0) 27
  rw [hs1] at g1 b2
  have b3 := b1.trans (b2.mono (by omega))
  replace g0 := (b2.block w.heap.size (by omega)).trans g0
  have hv1 := IsBy.upE (hv.below b3 (Nat.le_refl _)) b3.size
  obtain ⟨wA, hwA⟩ : ∃ x, (w.alloc (.cells #[.slice none 0 0] 27)).alloc (.cells #[.slice none 0 0] 27) = x := ⟨_, rfl⟩
  rw [hwA] at b3 g0 g1 hv1
  have hsA : Hid (wA.heap.size = w.heap.size + 1 + 1) := by show _ = _; rw [← hwA]; simp
  have hlo : w.heap.size + 1 < wA.heap.size := by rw [hsA.out]; omega
  clear b1 b2 hv
  go_enter Try.func13, Try.ntmps13
  go_wp2_with fail
  refine (c_DrawAddEngines _ _ _ hv1).mono ?_
  rintro e w1 ⟨x, y, cs, ds, rfl, hx, hy, ⟨hcl, hdl⟩, c⟩
  have s1 := c.size
  obtain ⟨ax, cx, hax⟩ : ∃ a cap, x = .slice a cs.length cap := ⟨_, _, hx.choose_spec.choose_spec.1⟩
  obtain ⟨ay, cy, hay⟩ : ∃ a cap, y = .slice a ds.length cap := ⟨_, _, hy.choose_spec.choose_spec.1⟩
  subst hax hay
  replace g0 := (c.block w.heap.size (by omega)).trans g0
  replace g1 := (c.block (w.heap.size + 1) hlo).trans g1
  replace b3 := b3.trans (c.mono b3.size)
  have z0 := row_cell g0 0
  have y0 := row_free g0 0
  have HP := hid (row_set g0 0 (.slice ax cs.length cx))
  have HQ := hid ((Below.heap_setCell w1 ⟨w.heap.size, 0, none⟩ (.slice ax cs.length cx) (w.heap.size + 1) (show w.heap.size + 1 ≠ w.heap.size by omega)).trans g1)
  have z1 := row_cell HQ.out 0
  have y1 := row_free HQ.out 0
  have HPb := hid ((Below.heap_setCell (w1.setCell ⟨w.heap.size, 0, none⟩ (.slice ax cs.length cx)) ⟨w.heap.size + 1, 0, none⟩ (.slice ay ds.length cy) w.heap.size (show w.heap.size ≠ w.heap.size + 1 by omega)).trans HP.out)
  have HQb := hid (row_set HQ.out 0 (.slice ay ds.length cy))
  have b5 := (b3.setCell (p := ⟨w.heap.size, 0, none⟩) (Nat.le_refl _) (.slice ax cs.length cx)).setCell (p := ⟨w.heap.size + 1, 0, none⟩) (show w.heap.size ≤ w.heap.size + 1 by omega) (.slice ay ds.length cy)
  have HX := hid (isT_eng hx (Nat.le_refl _) (u := .slice ax cs.length cx) (u' := .slice ay ds.length cy) g0 HQ.out)
  have HY := hid (isT_eng hy (Nat.le_refl _) (u := .slice ax cs.length cx) (u' := .slice ay ds.length cy) g0 HQ.out)
  clear c g0 g1 b3 hv1 HP HQ hx hy
  go_wp2
  (try simp only [Exit.inBlock, Exit.then])
  refine bodyPost_eng2 rfl rfl (by rfl) (by rfl) HPb.out HQb.out ?_
  exact ⟨_, _, cs, ds, rfl, HX.out, HY.out, ⟨hcl, hdl⟩, b5⟩
set_option maxHeartbeats 6400000 in
theorem w_FnChangeWheels (w : World) (v : Value) (nb : Nat) (hv : IsBy w w.heap.size v nb) :
    Calls Try.prog 4 #[v] w fun e w' => e = .returned (.bool true) ∧ Below w.heap.size w w' := by
  obtain ⟨a, cap, hva, hm, hc⟩ := id hv
  subst hva
  unfold maxLen at hm
  clear hc
  by_cases hbig : 1048576 < nb
  · clear hv
    go_enter Try.func4, Try.ntmps4
    go_wp2_with fail
    go_ret
    exact ⟨rfl, Below.refl _ _⟩
  · go_enter Try.func4, Try.ntmps4
    go_wp2_with fail
    refine (c_DrawChangeWheels _ _ _ hv).mono ?_
    rintro e w1 ⟨x, y, cs, ds, rfl, hx, hy, ⟨hcl, hdl⟩, b1⟩
    have s1 := b1.size
    obtain ⟨ax, cx, hax⟩ : ∃ a cap, x = .slice a cs.length cap := ⟨_, _, hx.choose_spec.choose_spec.1⟩
    obtain ⟨ay, cy, hay⟩ : ∃ a cap, y = .slice a ds.length cap := ⟨_, _, hy.choose_spec.choose_spec.1⟩
    subst hax hay
    clear hv
    have hs1 : (w1.alloc (.cells #[.slice none 0 0] 27)).heap.size = w1.heap.size + 1 := by simp
    have q1 := RetRow.e1 w1 (.cells #[.slice none 0 0] 27)
    have q2 := RetRow.e1 (w1.alloc (.cells #[.slice none 0 0] 27)) (.cells #[.slice none 0 0] 27)
    have g0 := eng_alloc w1 (.slice none 0 0) 27
    have g1 := eng_alloc (w1.alloc (.cells #[.slice none 0 0] 27)) (.slice none 0 0) 27
    rw [hs1] at g1 q2
    have q3 := q1.trans (q2.mono (by omega))
    replace g0 := (q2.block w1.heap.size (by omega)).trans g0
    have hx1 := hx.below q3 (Nat.le_refl _)
    have hy1 := hy.below q3 (Nat.le_refl _)
    have b2 := b1.trans (q3.mono s1)
    obtain ⟨wA, hwA⟩ : ∃ x, (w1.alloc (.cells #[.slice none 0 0] 27)).alloc (.cells #[.slice none 0 0] 27) = x := ⟨_, rfl⟩
    rw [hwA] at g0 g1 hx1 hy1 b2
    obtain ⟨g3, hg3⟩ : ∃ x, w1.heap.size = x := ⟨_, rfl⟩
    have h31 : w1.heap.size ≤ g3 := by omega
    have h32 : g3 ≤ w1.heap.size := by omega
    rw [hg3] at g0 g1
    have z0 := row_cell g0 0
    have y0 := row_free g0 0
    have HP := hid (row_set g0 0 (.slice ax cs.length cx))
    have HQ := hid ((Below.heap_setCell wA ⟨g3, 0, none⟩ (.slice ax cs.length cx) (g3 + 1) (show g3 + 1 ≠ g3 by omega)).trans g1)
    have z1 := row_cell HQ.out 0
    have y1 := row_free HQ.out 0
    have HPb := (Below.heap_setCell (wA.setCell ⟨g3, 0, none⟩ (.slice ax cs.length cx)) ⟨g3 + 1, 0, none⟩ (.slice ay ds.length cy) g3 (show g3 ≠ g3 + 1 by omega)).trans HP.out
    have HQb := row_set HQ.out 0 (.slice ay ds.length cy)
    have b5 := (b2.setCell (p := ⟨g3, 0, none⟩) (show w.heap.size ≤ g3 by omega) (.slice ax cs.length cx)).setCell (p := ⟨g3 + 1, 0, none⟩) (show w.heap.size ≤ g3 + 1 by omega) (.slice ay ds.length cy)
    have hAl : w1.heap.size ≤ wA.heap.size := by rw [← hwA]; simp; omega
    have HX := isT_eng hx1 hAl (u := .slice ax cs.length cx) (u' := .slice ay ds.length cy) g0 HQ.out
    have HY := isT_eng hy1 hAl (u := .slice ax cs.length cx) (u' := .slice ay ds.length cy) g0 HQ.out
    obtain ⟨wB, hwB⟩ : ∃ x, (wA.setCell ⟨g3, 0, none⟩ (.slice ax cs.length cx)).setCell ⟨g3 + 1, 0, none⟩ (.slice ay ds.length cy) = x := ⟨_, rfl⟩
    rw [hwB] at HPb HQb b5 HX HY
    have hl4 := (Array.getElem?_eq_some_iff.1 HQb).1
    have HK := hid (fun (w' : World) (hb : Below wB.heap.size wB w') => (show w'.cell? ⟨g3, 0, none⟩ = some (.slice ax cs.length cx) ∧ w'.cell? ⟨g3 + 1, 0, none⟩ = some (.slice ay ds.length cy) from ⟨by rw [row_cell ((hb.block g3 (by omega)).trans HPb)]; rfl, by rw [row_cell ((hb.block (g3 + 1) hl4).trans HQb)]; rfl⟩))
    have HI1 := hid (fun (w' : World) (hb : Below wB.heap.size wB w') => (HX.below hb (Nat.le_refl _)).up hb.size)
    have HI2 := hid (fun (w' : World) (hb : Below wB.heap.size wB w') => (HY.below hb (Nat.le_refl _)).up hb.size)
    have bb := Below.refl wB.heap.size wB
    have s5 := b5.size
    clear g0 g1 b2 b1 hx1 hy1 hx hy HP HPb HQb q1 q2 q3
    rcases cwF_cases cs ds with ⟨hB, h0⟩ | ⟨hB, hm1⟩
    · have HCB := hid hB
      obtain ⟨hE, hD, hlen, hsz⟩ := cwB_iff.1 hB
      obtain ⟨⟨n1, n7⟩, hcs⟩ := EGV_iff.1 hE
      have HCS := hid hcs
      have HDE := hid hD
      have HE := hid hE
      have HLEN := hid hlen
      have HS12 := hid (fun i (hi : i < cs.length) => (CV_iff.1 (HCS.out i hi).1).1)
      have HSZ := hid (cw_sizes hB)
      have HZ := hid (cwF_zero hB)
      have HSY := hid (cwF_sym hB)
      have HCT := hid (cwB_tuK hB cs.length)
      have HTR := hid (cwF_tri hB HCT.out.1 HCT.out.2)
      have HNN := hid (cwF_yes hB)
      obtain ⟨N, hN⟩ : ∃ N, cwF cs ds = N := ⟨_, rfl⟩
      have HN := hid hN
      rw [hN] at HZ HTR HNN h0 HSY
      have hNb : N ≤ 100 := by
        have h1 := cwT_bd (cs := cs) (ds := ds) cs.length (fun i hi => (HS12.out i hi).2)
        have := HNN.out; omega
      have t1 : (N != N) = false := by simp
      have t2 : ¬ N < 0 := by omega
      have HCI := hid (fun W v u (h1 : IsT W W.heap.size v cs) (h2 : IsT W W.heap.size u ds) => (show Calls Try.prog 11 #[.agg #[v], .agg #[u]] W fun e w' => e = .returned (.int .i64 N) ∧ Below W.heap.size W w' by rw [← hN]; exact c_iChangeWheels v u cs ds W h1 h2))
      have HCSP := hid (fun W v u (h1 : IsT W W.heap.size v cs) (h2 : IsT W W.heap.size u ds) => (show Calls Try.prog 9 #[.agg #[v], .agg #[u]] W fun e w' => e = .returned (.int .i64 N) ∧ Below W.heap.size W w' by rw [← hN]; exact c_sChangeWheels v u cs ds W h1 h2 (by omega) (by omega)))
      obtain ⟨aa, ca, hva, -, hcv⟩ := HX
      obtain ⟨ab, cb, hvb, -, hcu⟩ := HY
      simp only [Value.slice.injEq, true_and] at hva hvb
      obtain ⟨rfl, rfl⟩ := hva
      obtain ⟨rfl, rfl⟩ := hvb
      obtain ⟨b, o, rfl, hbl, gg0, -⟩ := hcv 0 (by omega)
      obtain ⟨b2, o2, rfl, hb2l, dd0, -⟩ := hcu 0 (by omega)
      rw [Nat.add_zero] at gg0 dd0
      have HCV := hid hcv
      have HCU := hid hcu
      clear hcs hE hD hlen hsz hB hN hcv hcu dd0
      obtain ⟨f3, f4⟩ := HK.out _ bb
      go_wp2_with fail
      clear hwB hwA z0 z1 y0 y1 f3 f4
      refine (HCI.out _ _ _ (HI1.out _ bb) (HI2.out _ bb)).mono ?_
      rintro e w2 ⟨rfl, c⟩
      have bb2 := bb.trans (c.mono bb.size)
      obtain ⟨f3, f4⟩ := HK.out _ bb2
      clear c
      go_wp2_with fail
      refine (HCSP.out _ _ _ (HI1.out _ bb2) (HI2.out _ bb2)).mono ?_
      rintro e w3 ⟨rfl, c⟩
      have bb3 := bb2.trans (c.mono bb2.size)
      clear c f3 f4 bb2
      go_wp2
      go_loopw [6, 7] (fun n i wr => ∃ (j : Nat) (T : Int), j ≤ cs.length ∧ i = .int .i64 j ∧ n = .int .i64 T ∧ Hid (T = smT cs ds j) ∧ Below wB.heap.size wB wr) (fun _ i _ => cs.length - (intOf i).toNat)
      case atStart => exact ⟨0, 0, Nat.zero_le _, rfl, rfl, rfl, bb3⟩
      case round =>
        clear bb3
        obtain ⟨j, T, hj, rfl, rfl, HT, cb⟩ := hrel
        obtain ⟨f3, f4⟩ := HK.out _ cb
        by_cases hlt : j < cs.length
        · obtain ⟨b', o', hb', -, gj, sj⟩ := HCV.out j hlt
          obtain ⟨b2', o2', hb2', -, dj, rj⟩ := HCU.out j (by rw [← HLEN.out]; exact hlt)
          simp only [Option.some.injEq, Addr.mk.injEq, and_true] at hb' hb2'
          obtain ⟨rfl, rfl⟩ := hb'
          obtain ⟨rfl, rfl⟩ := hb2'
          have lgj := World.block_lt_of_cell? _ _ gj
          have ldj := World.block_lt_of_cell? _ _ dj
          have fj := (cb.cell (p := ⟨b, o + j, none⟩) lgj).trans gj
          have q0 : (0 : Int) ≤ (j : Int) := by omega
          have q1 : (j : Int) < cs.length := by omega
          have q2 : (j : Int) < ds.length := by have := HLEN.out; omega
          have h12 := (HS12.out j hlt).2
          go_wp2
          go_loopw [6, 8] (fun n i wk => ∃ (k : Nat) (S : Int), k ≤ (tC cs j).size ∧ i = .int .i64 k ∧ n = .int .i64 S ∧ Hid (S = T + (k - cwR (tC cs j) (tC ds j) k)) ∧ Below wB.heap.size wB wk) (fun _ i _ => (tC cs j).size - (intOf i).toNat)
          case atStart => exact ⟨0, T, Nat.zero_le _, rfl, rfl, by show _ = _; simp [cwR], cb⟩
          case round =>
            clear f3 f4 fj cb
            obtain ⟨k, S, hk, rfl, rfl, HS, cbk⟩ := hrel
            obtain ⟨f3, f4⟩ := HK.out _ cbk
            have fg := (cbk.cell (p := ⟨b, o + j, none⟩) lgj).trans gj
            have fj := (cbk.cell (p := ⟨b2, o2 + j, none⟩) ldj).trans dj
            by_cases hkl : k < (tC cs j).size
            · have k0 : (0 : Int) ≤ (k : Int) := by omega
              have k1 : (k : Int) < (tC cs j).size := by omega
              have hkd : k < (tC ds j).size := by have := HSZ.out j hlt; omega
              have k2 : (k : Int) < (tC ds j).size := by omega
              have hSb : 0 ≤ S ∧ S ≤ 12 * j + k := by
                have a1 := smT_bd (cs := cs) (ds := ds) j (fun i hi => (HS12.out i (by omega)).2)
                have a2 := cwR_bd (a := tC cs j) (b := tC ds j) k
                have a3 := HT.out
                have a4 := HS.out
                omega
              obtain ⟨hS0, hS1⟩ := hSb
              by_cases hb : bN (tC cs j) k = bN (tC ds j) k
              · have HB := hid hb
                have t3 : ((((tC cs j)[k]'hkl).toNat : Int) == (((tC ds j)[k]'hkd).toNat : Int)) = true := by
                  rw [bN_eq hkl, bN_eq hkd] at hb
                  rw [hb]; simp
                clear hb
                go_wp2_with fail
                go_quiet (fail)
                go_wp2
                go_roundw
                case rel => exact ⟨k + 1, S + 1, by omega, by go_num, by go_num, by show _ = _; rw [cwR, if_pos HB.out, HS.out]; omega, bel_drewN cbk _⟩
                case measure => simp [intOf]; omega
              · have HB := hid hb
                have t3 : ((((tC cs j)[k]'hkl).toNat : Int) == (((tC ds j)[k]'hkd).toNat : Int)) = false := by
                  rw [bN_eq hkl, bN_eq hkd] at hb
                  simp; omega
                clear hb
                go_wp2_with fail
                go_quiet (fail)
                go_wp2
                go_roundw
                case rel => exact ⟨k + 1, S, by omega, by go_num, rfl, by show _ = _; rw [cwR, if_neg HB.out, HS.out]; omega, bel_drewN cbk _⟩
                case measure => simp [intOf]; omega
            · obtain rfl : k = (tC cs j).size := by omega
              have HTS := hid (show S = smT cs ds (j + 1) from by rw [HS.out, HT.out, smT])
              go_wp2
              go_roundw
              case rel => exact ⟨j + 1, S, by omega, by go_num, rfl, HTS, cbk⟩
              case measure => simp [intOf]; omega
        · obtain rfl : j = cs.length := by omega
          have hng : ¬ (cs.length : Int) < cs.length := by omega
          have HALL := hid (show N + T = (cs.length : Int) * (tC cs 0).size by rw [HNN.out, HT.out]; exact smT_all _ (fun i hi => (HCS.out i hi).2))
          go_wp2_with fail
          refine (c_deTurned _ cs cs.length _ HE.out (by omega) (HI1.out _ cb)).mono ?_
          rintro e w4 ⟨gt, pt, rfl, rt, c⟩
          have b4 := cb.trans (c.mono cb.size)
          have s4 := c.size
          have bX := RetRow.e1 w4 (.cells #[.slice (some ⟨gt, 0, none⟩) (tuK cs cs.length).length pt] 27)
          have x9 := eng_cell w4 (.slice (some ⟨gt, 0, none⟩) (tuK cs cs.length).length pt) 27
          have bC := b4.trans (bX.mono b4.size)
          have it := ((rt.isT).below bX (Nat.le_refl _)).up bX.size
          obtain ⟨wC, hwC⟩ : ∃ x, w4.alloc (.cells #[.slice (some ⟨gt, 0, none⟩) (tuK cs cs.length).length pt] 27) = x := ⟨_, rfl⟩
          rw [hwC] at x9 bC it
          have l9 := World.block_lt_of_cell? _ _ x9
          have HKC := hid (fun (w' : World) (hb : Below wC.heap.size wC w') => (show (fun w' => w'.cell? ⟨g3, 0, none⟩ = some (.slice (some ⟨b, o, none⟩) cs.length cx) ∧ w'.cell? ⟨g3 + 1, 0, none⟩ = some (.slice (some ⟨b2, o2, none⟩) ds.length cy) ∧ w'.cell? ⟨w4.heap.size, 0, none⟩ = some (.slice (some ⟨gt, 0, none⟩) (tuK cs cs.length).length pt) ∧ w'.cell? ⟨b, o, none⟩ = some (.string (tC cs 0))) w' from ⟨(HK.out _ (bC.trans (hb.mono bC.size))).1, (HK.out _ (bC.trans (hb.mono bC.size))).2, (hb.cell (p := ⟨w4.heap.size, 0, none⟩) l9).trans x9, ((bC.trans (hb.mono bC.size)).cell (p := ⟨b, o, none⟩) (World.block_lt_of_cell? _ _ gg0)).trans gg0⟩))
          have HIT := hid (fun (w' : World) (hb : Below wC.heap.size wC w') => (it.below hb (Nat.le_refl _)).up hb.size)
          have HJ1 := hid (fun (w' : World) (hb : Below wC.heap.size wC w') => HI1.out w' (bC.trans (hb.mono bC.size)))
          have HJ2 := hid (fun (w' : World) (hb : Below wC.heap.size wC w') => HI2.out w' (bC.trans (hb.mono bC.size)))
          have hTb : 0 ≤ T ∧ T ≤ 100 := by
            have a1 := smT_bd (cs := cs) (ds := ds) cs.length (fun i hi => (HS12.out i hi).2)
            have a3 := HT.out
            omega
          obtain ⟨hT0, hT1⟩ := hTb
          have hz12 := (HS12.out 0 (by omega)).2
          have k1 : IntKind.i64.wrap (N + T) = N + T := IntWalk.i64_in _ (by omega)
          obtain ⟨M, hM⟩ : ∃ M : Int, (cs.length : Int) * ((tC cs 0).size : Int) = M := ⟨_, rfl⟩
          have hM1 : N + T = M := HALL.out.trans hM
          have k2 : IntKind.i64.wrap ((cs.length : Int) * ((tC cs 0).size : Int)) = (cs.length : Int) * ((tC cs 0).size : Int) := IntWalk.i64_in _ (by rw [hM]; omega)
          have k3 : (N + T == (cs.length : Int) * ((tC cs 0).size : Int)) = true := by rw [hM]; simpa using hM1
          have k4 : (N == N) = true := by simp
          have k5 : (N == 0) = decide (cs = ds) := by
            have h := HZ.out
            by_cases e : cs = ds
            · simp [e, h.2 e]
            · simp [e]; intro e2; exact e (h.1 e2)
          obtain ⟨U, hU⟩ : ∃ U, cwF cs (tuK cs cs.length) = U := ⟨_, rfl⟩
          obtain ⟨V, hV⟩ : ∃ V, cwF ds (tuK cs cs.length) = V := ⟨_, rfl⟩
          have HTRI := hid (show U ≤ N + V by rw [← hU, ← hV]; exact HTR.out)
          have hVb : 0 ≤ V ∧ V ≤ 100 := by
            have h1 := cwT_bd (cs := ds) (ds := tuK cs cs.length) ds.length (fun i hi => (CV_iff.1 ((EGV_iff.1 HDE.out).2 i hi).1).1.2)
            have h2 := cwF_yes HCT.out.2
            omega
          obtain ⟨hV0, hV1⟩ := hVb
          have k6 : IntKind.i64.wrap (N + V) = N + V := IntWalk.i64_in _ (by omega)
          have k7 : U ≤ N + V := HTRI.out
          have HCU1 := hid (fun W v u (h1 : IsT W W.heap.size v ds) (h2 : IsT W W.heap.size u cs) => (show Calls Try.prog 11 #[.agg #[v], .agg #[u]] W fun e w' => e = .returned (.int .i64 N) ∧ Below W.heap.size W w' by rw [← HSY.out]; exact c_iChangeWheels v u ds cs W h1 h2))
          have HCU2 := hid (fun W v u (h1 : IsT W W.heap.size v cs) (h2 : IsT W W.heap.size u (tuK cs cs.length)) => (show Calls Try.prog 11 #[.agg #[v], .agg #[u]] W fun e w' => e = .returned (.int .i64 U) ∧ Below W.heap.size W w' by rw [← hU]; exact c_iChangeWheels v u cs _ W h1 h2))
          have HCU3 := hid (fun W v u (h1 : IsT W W.heap.size v ds) (h2 : IsT W W.heap.size u (tuK cs cs.length)) => (show Calls Try.prog 11 #[.agg #[v], .agg #[u]] W fun e w' => e = .returned (.int .i64 V) ∧ Below W.heap.size W w' by rw [← hV]; exact c_iChangeWheels v u ds _ W h1 h2))
          have n3 : 0 < cs.length := by omega
          have n2 : (0 : Int) < cs.length := by omega
          clear hM hM1 hU hV c rt bX it b4 f3 f4 x9 hng
          go_wp2_with fail
          clear hwC
          refine wp_region_held_drew (S := fun w' => w'.cell? ⟨g3, 0, none⟩ = some (.slice (some ⟨b, o, none⟩) cs.length cx) ∧ w'.cell? ⟨g3 + 1, 0, none⟩ = some (.slice (some ⟨b2, o2, none⟩) ds.length cy) ∧ w'.cell? ⟨w4.heap.size, 0, none⟩ = some (.slice (some ⟨gt, 0, none⟩) (tuK cs cs.length).length pt) ∧ w'.cell? ⟨b, o, none⟩ = some (.string (tC cs 0))) (by kernel_rfl) ?_ (fun hHeld => ?_)
          focus (exact HKC.out _ (Below.refl _ _).drew)
          refine take_at (i := 0) (d := some 74) (v := ?_) rfl rfl (by kernel_rfl) (by kernel_rfl) (by kernel_rfl) ?_ (Or.inl ⟨by rfl, ?_⟩) (by assumption) ?_
          rotate_left
          exact fun _ _ _ h => h
          focus (intro w hSw; (try dsimp only at hSw); go_simp; (try with_reducible rfl); done)
          (try simp only [Act.put, List.setIfInBounds_toArray, List.set_cons_zero, List.set_cons_succ])
          refine take_at (i := 1) (d := some 75) (v := ?_) rfl rfl (by kernel_rfl) (by kernel_rfl) (by kernel_rfl) ?_ (Or.inl ⟨by rfl, ?_⟩) (by assumption) ?_
          rotate_left
          exact fun _ _ _ h => h
          focus (intro w hSw; (try dsimp only at hSw); go_simp; (try with_reducible rfl); done)
          (try simp only [Act.put, List.setIfInBounds_toArray, List.set_cons_zero, List.set_cons_succ])
          refine take_at (i := 2) (d := some 76) (v := ?_) rfl rfl (by kernel_rfl) (by kernel_rfl) (by kernel_rfl) ?_ (Or.inl ⟨by rfl, ?_⟩) (by assumption) ?_
          rotate_left
          exact fun _ _ _ h => h
          focus (intro w hSw; (try dsimp only at hSw); go_simp; (try with_reducible rfl); done)
          (try simp only [Act.put, List.setIfInBounds_toArray, List.set_cons_zero, List.set_cons_succ])
          refine take_at (i := 3) (d := some 77) (v := ?_) rfl rfl (by kernel_rfl) (by kernel_rfl) (by kernel_rfl) ?_ (Or.inl ⟨by rfl, ?_⟩) (by assumption) ?_
          rotate_left
          exact fun _ _ _ h => h
          focus (intro w hSw; (try dsimp only at hSw); go_simp; (try with_reducible rfl); done)
          (try simp only [Act.put, List.setIfInBounds_toArray, List.set_cons_zero, List.set_cons_succ])
          refine take_at (i := 4) (d := some 78) (v := ?_) rfl rfl (by kernel_rfl) (by kernel_rfl) (by kernel_rfl) ?_ (Or.inl ⟨by rfl, ?_⟩) (by assumption) ?_
          rotate_left
          exact fun _ _ _ h => h
          focus (intro w hSw; (try dsimp only at hSw); go_simp; (try with_reducible rfl); done)
          (try simp only [Act.put, List.setIfInBounds_toArray, List.set_cons_zero, List.set_cons_succ])
          refine take_at (i := 5) (d := some 79) (v := ?_) rfl rfl (by kernel_rfl) (by kernel_rfl) (by kernel_rfl) ?_ (Or.inl ⟨by rfl, ?_⟩) (by assumption) ?_
          rotate_left
          exact fun _ _ _ h => h
          focus (intro w hSw; (try dsimp only at hSw); go_simp; (try with_reducible rfl); done)
          (try simp only [Act.put, List.setIfInBounds_toArray, List.set_cons_zero, List.set_cons_succ])
          refine take_at (i := 6) (d := some 80) (v := ?_) rfl rfl (by kernel_rfl) (by kernel_rfl) (by kernel_rfl) ?_ (Or.inl ⟨by rfl, ?_⟩) (by assumption) ?_
          rotate_left
          exact fun _ _ _ h => h
          focus (intro w hSw; (try dsimp only at hSw); go_simp; (try with_reducible rfl); done)
          (try simp only [Act.put, List.setIfInBounds_toArray, List.set_cons_zero, List.set_cons_succ])
          refine take_at (i := 7) (d := some 81) (v := ?_) rfl rfl (by kernel_rfl) (by kernel_rfl) (by kernel_rfl) ?_ (Or.inl ⟨by rfl, ?_⟩) (by assumption) ?_
          rotate_left
          exact fun _ _ _ h => h
          focus (intro w hSw; (try dsimp only at hSw); go_simp; (try with_reducible rfl); done)
          (try simp only [Act.put, List.setIfInBounds_toArray, List.set_cons_zero, List.set_cons_succ])
          refine take_at (i := 8) (d := some 82) (v := ?_) rfl rfl (by kernel_rfl) (by kernel_rfl) (by kernel_rfl) ?_ (Or.inl ⟨by rfl, ?_⟩) (by assumption) ?_
          rotate_left
          exact fun _ _ _ h => h
          focus (intro w hSw; (try dsimp only at hSw); go_simp; (try with_reducible rfl); done)
          (try simp only [Act.put, List.setIfInBounds_toArray, List.set_cons_zero, List.set_cons_succ])
          refine take_at (i := 9) (d := some 83) (v := ?_) rfl rfl (by kernel_rfl) (by kernel_rfl) (by kernel_rfl) ?_ (Or.inl ⟨by rfl, ?_⟩) (by assumption) ?_
          rotate_left
          exact fun _ _ _ h => h
          focus (intro w hSw; (try dsimp only at hSw); go_simp; (try with_reducible rfl); done)
          (try simp only [Act.put, List.setIfInBounds_toArray, List.set_cons_zero, List.set_cons_succ])
          refine take_at (i := 10) (d := some 84) (v := ?_) rfl rfl (by kernel_rfl) (by kernel_rfl) (by kernel_rfl) ?_ (Or.inl ⟨by rfl, ?_⟩) (by assumption) ?_
          rotate_left
          exact fun _ _ _ h => h
          focus (intro w hSw; (try dsimp only at hSw); go_simp; (try with_reducible rfl); done)
          (try simp only [Act.put, List.setIfInBounds_toArray, List.set_cons_zero, List.set_cons_succ])
          refine take_at (i := 11) (d := some 85) (v := ?_) rfl rfl (by kernel_rfl) (by kernel_rfl) (by kernel_rfl) ?_ (Or.inl ⟨by rfl, ?_⟩) (by assumption) ?_
          rotate_left
          exact fun _ _ _ h => h
          focus (intro w hSw; (try dsimp only at hSw); go_simp; (try with_reducible rfl); done)
          (try simp only [Act.put, List.setIfInBounds_toArray, List.set_cons_zero, List.set_cons_succ])
          refine take_at (i := 12) (d := some 86) (v := ?_) rfl rfl (by kernel_rfl) (by kernel_rfl) (by kernel_rfl) ?_ (Or.inl ⟨by rfl, ?_⟩) (by assumption) ?_
          rotate_left
          exact fun _ _ _ h => h
          focus (intro w hSw; (try dsimp only at hSw); go_simp; (try with_reducible rfl); done)
          (try simp only [Act.put, List.setIfInBounds_toArray, List.set_cons_zero, List.set_cons_succ])
          refine take_at (i := 13) (d := some 87) (v := ?_) rfl rfl (by kernel_rfl) (by kernel_rfl) (by kernel_rfl) ?_ (Or.inl ⟨by rfl, ?_⟩) (by assumption) ?_
          rotate_left
          exact fun _ _ _ h => h
          focus (intro w hSw; (try dsimp only at hSw); go_simp; (try with_reducible rfl); done)
          (try simp only [Act.put, List.setIfInBounds_toArray, List.set_cons_zero, List.set_cons_succ])
          refine take_at (i := 14) (d := some 88) (v := ?_) rfl rfl (by kernel_rfl) (by kernel_rfl) (by kernel_rfl) ?_ (Or.inl ⟨by rfl, ?_⟩) (by assumption) ?_
          rotate_left
          exact fun _ _ _ h => h
          focus (intro w hSw; (try dsimp only at hSw); go_simp; (try with_reducible rfl); done)
          (try simp only [Act.put, List.setIfInBounds_toArray, List.set_cons_zero, List.set_cons_succ])
          refine take_at (i := 15) (d := some 89) (v := ?_) rfl rfl (by kernel_rfl) (by kernel_rfl) (by kernel_rfl) ?_ (Or.inl ⟨by rfl, ?_⟩) (by assumption) ?_
          rotate_left
          exact fun _ _ _ h => h
          focus (intro w hSw; (try dsimp only at hSw); go_simp; (try with_reducible rfl); done)
          (try simp only [Act.put, List.setIfInBounds_toArray, List.set_cons_zero, List.set_cons_succ])
          refine take_at (i := 17) (d := some 91) (v := ?_) rfl rfl (by kernel_rfl) (by kernel_rfl) (by kernel_rfl) ?_ (Or.inl ⟨by rfl, ?_⟩) (by assumption) ?_
          rotate_left
          exact fun _ _ _ h => h
          focus (intro w hSw; (try dsimp only at hSw); go_simp; (try with_reducible rfl); done)
          (try simp only [Act.put, List.setIfInBounds_toArray, List.set_cons_zero, List.set_cons_succ])
          refine wpAnyH_ready (rs := [16]) (by kernel_rfl) (by simp) ?_
          refine AllReadyH.cons (o := _) rfl (fun K hK => ?_) AllReadyH.nil
          go_simp
          refine (HCU1.out _ _ _ (HJ2.out _ (Below.refl wC.heap.size wC).drew) (HJ1.out _ (Below.refl wC.heap.size wC).drew)).mono ?_
          rintro e w5 ⟨rfl, c5⟩
          have d5 := (Below.refl wC.heap.size wC).drew.trans c5
          refine hK.out _ _ ?_ (fun hHeld => ?_)
          focus (exact HKC.out _ d5)
          clear hK
          (try simp only [Act.put, List.setIfInBounds_toArray, List.set_cons_zero, List.set_cons_succ])
          refine take_at (i := 18) (d := some 92) (v := ?_) rfl rfl (by kernel_rfl) (by kernel_rfl) (by kernel_rfl) ?_ (Or.inl ⟨by rfl, ?_⟩) (by assumption) ?_
          rotate_left
          exact fun _ _ _ h => h
          focus (intro w hSw; (try dsimp only at hSw); go_simp; (try with_reducible rfl); done)
          (try simp only [Act.put, List.setIfInBounds_toArray, List.set_cons_zero, List.set_cons_succ])
          refine take_at (i := 19) (d := some 93) (v := ?_) rfl rfl (by kernel_rfl) (by kernel_rfl) (by kernel_rfl) ?_ (Or.inl ⟨by rfl, ?_⟩) (by assumption) ?_
          rotate_left
          exact fun _ _ _ h => h
          focus (intro w hSw; (try dsimp only at hSw); go_simp; (try with_reducible rfl); done)
          (try simp only [Act.put, List.setIfInBounds_toArray, List.set_cons_zero, List.set_cons_succ])
          refine take_at (i := 20) (d := some 94) (v := ?_) rfl rfl (by kernel_rfl) (by kernel_rfl) (by kernel_rfl) ?_ (Or.inl ⟨by rfl, ?_⟩) (by assumption) ?_
          rotate_left
          exact fun _ _ _ h => h
          focus (intro w hSw; (try dsimp only at hSw); go_simp; (try with_reducible rfl); done)
          (try simp only [Act.put, List.setIfInBounds_toArray, List.set_cons_zero, List.set_cons_succ])
          refine take_at (i := 21) (d := some 95) (v := ?_) rfl rfl (by kernel_rfl) (by kernel_rfl) (by kernel_rfl) ?_ (Or.inl ⟨by rfl, ?_⟩) (by assumption) ?_
          rotate_left
          exact fun _ _ _ h => h
          focus (intro w hSw; (try dsimp only at hSw); go_simp; (try with_reducible rfl); done)
          (try simp only [Act.put, List.setIfInBounds_toArray, List.set_cons_zero, List.set_cons_succ])
          refine take_at (i := 22) (d := some 96) (v := ?_) rfl rfl (by kernel_rfl) (by kernel_rfl) (by kernel_rfl) ?_ (Or.inl ⟨by rfl, ?_⟩) (by assumption) ?_
          rotate_left
          exact fun _ _ _ h => h
          focus (intro w hSw; (try dsimp only at hSw); go_simp; (try with_reducible rfl); done)
          (try simp only [Act.put, List.setIfInBounds_toArray, List.set_cons_zero, List.set_cons_succ])
          refine take_at (i := 23) (d := some 97) (v := ?_) rfl rfl (by kernel_rfl) (by kernel_rfl) (by kernel_rfl) ?_ (Or.inl ⟨by rfl, ?_⟩) (by assumption) ?_
          rotate_left
          exact fun _ _ _ h => h
          focus (intro w hSw; (try dsimp only at hSw); go_simp; (try with_reducible rfl); done)
          (try simp only [Act.put, List.setIfInBounds_toArray, List.set_cons_zero, List.set_cons_succ])
          refine take_at (i := 24) (d := some 98) (v := ?_) rfl rfl (by kernel_rfl) (by kernel_rfl) (by kernel_rfl) ?_ (Or.inl ⟨by rfl, ?_⟩) (by assumption) ?_
          rotate_left
          exact fun _ _ _ h => h
          focus (intro w hSw; (try dsimp only at hSw); go_simp; (try with_reducible rfl); done)
          (try simp only [Act.put, List.setIfInBounds_toArray, List.set_cons_zero, List.set_cons_succ])
          refine wpAnyH_ready (rs := [25]) (by kernel_rfl) (by simp) ?_
          refine AllReadyH.cons (o := _) rfl (fun K hK => ?_) AllReadyH.nil
          go_simp
          refine (deSameE _ _ cs ds _ (HJ1.out _ d5) (HJ2.out _ d5)).mono ?_
          rintro e w6 ⟨rfl, c6⟩
          have d6 := d5.trans (c6.mono d5.size)
          refine hK.out _ _ ?_ (fun hHeld => ?_)
          focus (exact HKC.out _ d6)
          clear hK
          (try simp only [Act.put, List.setIfInBounds_toArray, List.set_cons_zero, List.set_cons_succ])
          refine take_at (i := 26) (d := some 100) (v := ?_) rfl rfl (by kernel_rfl) (by kernel_rfl) (by kernel_rfl) ?_ (Or.inl ⟨by rfl, ?_⟩) (by assumption) ?_
          rotate_left
          exact fun _ _ _ h => h
          focus (intro w hSw; (try dsimp only at hSw); go_simp; (try with_reducible rfl); done)
          (try simp only [Act.put, List.setIfInBounds_toArray, List.set_cons_zero, List.set_cons_succ])
          refine take_at (i := 27) (d := some 101) (v := ?_) rfl rfl (by kernel_rfl) (by kernel_rfl) (by kernel_rfl) ?_ (Or.inl ⟨by rfl, ?_⟩) (by assumption) ?_
          rotate_left
          exact fun _ _ _ h => h
          focus (intro w hSw; (try dsimp only at hSw); go_simp; (try with_reducible rfl); done)
          (try simp only [Act.put, List.setIfInBounds_toArray, List.set_cons_zero, List.set_cons_succ])
          refine take_at (i := 28) (d := some 102) (v := ?_) rfl rfl (by kernel_rfl) (by kernel_rfl) (by kernel_rfl) ?_ (Or.inl ⟨by rfl, ?_⟩) (by assumption) ?_
          rotate_left
          exact fun _ _ _ h => h
          focus (intro w hSw; (try dsimp only at hSw); go_simp; (try with_reducible rfl); done)
          (try simp only [Act.put, List.setIfInBounds_toArray, List.set_cons_zero, List.set_cons_succ])
          refine take_at (i := 29) (d := some 103) (v := ?_) rfl rfl (by kernel_rfl) (by kernel_rfl) (by kernel_rfl) ?_ (Or.inl ⟨by rfl, ?_⟩) (by assumption) ?_
          rotate_left
          exact fun _ _ _ h => h
          focus (intro w hSw; (try dsimp only at hSw); go_simp; (try with_reducible rfl); done)
          (try simp only [Act.put, List.setIfInBounds_toArray, List.set_cons_zero, List.set_cons_succ])
          refine take_at (i := 30) (d := some 104) (v := ?_) rfl rfl (by kernel_rfl) (by kernel_rfl) (by kernel_rfl) ?_ (Or.inl ⟨by rfl, ?_⟩) (by assumption) ?_
          rotate_left
          exact fun _ _ _ h => h
          focus (intro w hSw; (try dsimp only at hSw); go_simp; (try with_reducible rfl); done)
          (try simp only [Act.put, List.setIfInBounds_toArray, List.set_cons_zero, List.set_cons_succ])
          refine take_at (i := 32) (d := some 106) (v := ?_) rfl rfl (by kernel_rfl) (by kernel_rfl) (by kernel_rfl) ?_ (Or.inl ⟨by rfl, ?_⟩) (by assumption) ?_
          rotate_left
          exact fun _ _ _ h => h
          focus (intro w hSw; (try dsimp only at hSw); go_simp; (try with_reducible rfl); done)
          (try simp only [Act.put, List.setIfInBounds_toArray, List.set_cons_zero, List.set_cons_succ])
          refine take_at (i := 33) (d := some 107) (v := ?_) rfl rfl (by kernel_rfl) (by kernel_rfl) (by kernel_rfl) ?_ (Or.inl ⟨by rfl, ?_⟩) (by assumption) ?_
          rotate_left
          exact fun _ _ _ h => h
          focus (intro w hSw; (try dsimp only at hSw); go_simp; (try with_reducible rfl); done)
          (try simp only [Act.put, List.setIfInBounds_toArray, List.set_cons_zero, List.set_cons_succ])
          refine take_at (i := 34) (d := some 108) (v := ?_) rfl rfl (by kernel_rfl) (by kernel_rfl) (by kernel_rfl) ?_ (Or.inl ⟨by rfl, ?_⟩) (by assumption) ?_
          rotate_left
          exact fun _ _ _ h => h
          focus (intro w hSw; (try dsimp only at hSw); go_simp; (try with_reducible rfl); done)
          (try simp only [Act.put, List.setIfInBounds_toArray, List.set_cons_zero, List.set_cons_succ])
          refine wpAnyH_ready (rs := [31]) (by kernel_rfl) (by simp) ?_
          refine AllReadyH.cons (o := _) rfl (fun K hK => ?_) AllReadyH.nil
          go_simp
          refine (HCU2.out _ _ _ (HJ1.out _ d6) (HIT.out _ d6)).mono ?_
          rintro e w7 ⟨rfl, c7⟩
          have d7 := d6.trans (c7.mono d6.size)
          refine hK.out _ _ ?_ (fun hHeld => ?_)
          focus (exact HKC.out _ d7)
          clear hK
          (try simp only [Act.put, List.setIfInBounds_toArray, List.set_cons_zero, List.set_cons_succ])
          refine wpAnyH_ready (rs := [35]) (by kernel_rfl) (by simp) ?_
          refine AllReadyH.cons (o := _) rfl (fun K hK => ?_) AllReadyH.nil
          go_simp
          refine (HCU3.out _ _ _ (HJ2.out _ d7) (HIT.out _ d7)).mono ?_
          rintro e w8 ⟨rfl, c8⟩
          have d8 := d7.trans (c8.mono d7.size)
          refine hK.out _ _ ?_ (fun hHeld => ?_)
          focus (exact HKC.out _ d8)
          clear hK
          (try simp only [Act.put, List.setIfInBounds_toArray, List.set_cons_zero, List.set_cons_succ])
          refine take_at (i := 36) (d := some 110) (v := ?_) rfl rfl (by kernel_rfl) (by kernel_rfl) (by kernel_rfl) ?_ (Or.inl ⟨by rfl, ?_⟩) (by assumption) ?_
          rotate_left
          exact fun _ _ _ h => h
          focus (intro w hSw; (try dsimp only at hSw); go_simp; (try with_reducible rfl); done)
          (try simp only [Act.put, List.setIfInBounds_toArray, List.set_cons_zero, List.set_cons_succ])
          refine take_at (i := 37) (d := some 111) (v := ?_) rfl rfl (by kernel_rfl) (by kernel_rfl) (by kernel_rfl) ?_ (Or.inl ⟨by rfl, ?_⟩) (by assumption) ?_
          rotate_left
          exact fun _ _ _ h => h
          focus (intro w hSw; (try dsimp only at hSw); go_simp; (try with_reducible rfl); done)
          (try simp only [Act.put, List.setIfInBounds_toArray, List.set_cons_zero, List.set_cons_succ])
          refine take_at (i := 38) (d := some 112) (v := ?_) rfl rfl (by kernel_rfl) (by kernel_rfl) (by kernel_rfl) ?_ (Or.inl ⟨by rfl, ?_⟩) (by assumption) ?_
          rotate_left
          exact fun _ _ _ h => h
          focus (intro w hSw; (try dsimp only at hSw); go_simp; (try with_reducible rfl); done)
          (try simp only [Act.put, List.setIfInBounds_toArray, List.set_cons_zero, List.set_cons_succ])
          refine take_at (i := 39) (d := some 2) (v := ?_) rfl rfl (by kernel_rfl) (by kernel_rfl) (by kernel_rfl) ?_ (Or.inl ⟨by rfl, ?_⟩) (by assumption) ?_
          rotate_left
          exact fun _ _ _ h => h
          focus (intro w hSw; (try dsimp only at hSw); go_simp; (try with_reducible rfl); done)
          (try simp only [Act.put, List.setIfInBounds_toArray, List.set_cons_zero, List.set_cons_succ])
          refine wpAnyH_done (by kernel_rfl) ?_ _
          go_wp2
          go_ret
          exact ⟨rfl, b5.trans ((bC.trans (d8.mono bC.size)).mono s5)⟩
    · have hm2 : ((-1 : Int) != -1) = false := by decide
      have HCI := hid (fun W v u (h1 : IsT W W.heap.size v cs) (h2 : IsT W W.heap.size u ds) => (show Calls Try.prog 11 #[.agg #[v], .agg #[u]] W fun e w' => e = .returned (.int .i64 (-1)) ∧ Below W.heap.size W w' by rw [← hm1]; exact c_iChangeWheels v u cs ds W h1 h2))
      have HCSP := hid (fun W v u (h1 : IsT W W.heap.size v cs) (h2 : IsT W W.heap.size u ds) => (show Calls Try.prog 9 #[.agg #[v], .agg #[u]] W fun e w' => e = .returned (.int .i64 (-1)) ∧ Below W.heap.size W w' by rw [← hm1]; exact c_sChangeWheels v u cs ds W h1 h2 (by omega) (by omega)))
      clear hB hm1 HX HY
      obtain ⟨f3, f4⟩ := HK.out _ bb
      go_wp2_with fail
      clear hwB hwA z0 z1 y0 y1 f3 f4
      refine (HCI.out _ _ _ (HI1.out _ bb) (HI2.out _ bb)).mono ?_
      rintro e w2 ⟨rfl, c⟩
      have bb2 := bb.trans (c.mono bb.size)
      obtain ⟨f3, f4⟩ := HK.out _ bb2
      clear c
      go_wp2_with fail
      refine (HCSP.out _ _ _ (HI1.out _ bb2) (HI2.out _ bb2)).mono ?_
      rintro e w3 ⟨rfl, c⟩
      have bb3 := bb2.trans (c.mono bb2.size)
      clear c f3 f4 bb2
      obtain ⟨f3, f4⟩ := HK.out _ bb3
      go_wp2_with fail
      refine (HCSP.out _ _ _ (HI1.out _ bb3) (HI2.out _ bb3)).mono ?_
      rintro e w4 ⟨rfl, c⟩
      have bb4 := bb3.trans (c.mono bb3.size)
      go_wp2
      go_ret
      exact ⟨rfl, b5.trans (bb4.mono s5)⟩
end Go.Proofs.Ytkaanlldjkflaaa
