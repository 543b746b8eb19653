/- What is proved here: contracts of TurnWhole, RunEngine, and of the drawing of a run with a slip. -/
import Derived.Test.YtkaanlldjkflaaaTm
import Derived.Test.YtkaanlldjkflaaaDraw1
set_option linter.unusedVariables false
set_option linter.unusedSimpArgs false
set_option maxRecDepth 100000
namespace Go.Proofs.Ytkaanlldjkflaaa
open Go.RowKit

/-- A row of strings reads as before where a cell is written in a block that holds no string. -/
theorem IsT.setNS {w : World} {B g j : Nat} {v u : Value} {cs : List ByteArray} (h : IsT w B v cs) (hg : ∀ o s, w.cell? ⟨g, o, none⟩ ≠ some (.string s)) : IsT (w.setCell ⟨g, j, none⟩ u) B v cs := by
  obtain ⟨av, cap, rfl, hm, hc⟩ := h
  refine ⟨av, cap, rfl, hm, fun i hi => ?_⟩
  obtain ⟨b, off, rfl, hb, hcell, hs⟩ := hc i hi
  have hne : ¬ b = g := by rintro rfl; exact hg _ _ hcell
  exact ⟨b, off, rfl, hb, cell_other hne hcell, hs⟩
theorem Blk.ns {w : World} {g : Nat} {xs : List Int} (h : Blk w g xs) : ∀ o s, w.cell? ⟨g, o, none⟩ ≠ some (.string s) := by
  intro o s e
  rw [row_cell h, List.getElem?_toArray, List.getElem?_map] at e
  cases h2 : xs[o]? <;> rw [h2] at e <;> simp at e
theorem eng_ns {w : World} {g n c : Nat} {a : Option Addr} {t : TypeId} (h : w.heap[g]? = some (.cells #[.slice a n c] t (0, 0))) : ∀ o s, w.cell? ⟨g, o, none⟩ ≠ some (.string s) := by
  intro o s e
  rw [row_cell h] at e
  rcases Nat.eq_zero_or_pos o with h2 | h2
  · subst h2; simp at e
  · rw [Array.getElem?_eq_none (by simp; omega)] at e; cases e
theorem c_iTurnWhole (v : Value) (cs : List ByteArray) (w : World) (hE : EGV cs = true) (hv : IsT w w.heap.size v cs) :
    Calls Try.prog 58 #[.agg #[v]] w (RetEB w (tuN cs) true) := by
  obtain ⟨av, cv, hav⟩ : ∃ a cap, v = .slice a cs.length cap := ⟨_, _, hv.choose_spec.choose_spec.1⟩
  subst hav
  have hs1 : (w.alloc (.cells #[.slice av cs.length cv] 27)).heap.size = w.heap.size + 1 := by simp
  have e0 := eng_cell w (.slice av cs.length cv) 27
  have b1 := RetRow.e1 w (.cells #[.slice av cs.length cv] 27)
  have b2 := RetRow.e1 (w.alloc (.cells #[.slice av cs.length cv] 27)) (.cells #[.slice none 0 0] 27)
  have g1 := eng_alloc (w.alloc (.cells #[.slice av cs.length cv] 27)) (.slice none 0 0) 27
  rw [hs1] at g1 b2
  have b3 := b1.trans (b2.mono (by omega))
  replace e0 := (b2.cell (p := ⟨w.heap.size, 0, none⟩) (show w.heap.size < w.heap.size + 1 by omega)).trans e0
  have hvA := (hv.below b3 (Nat.le_refl _)).up b3.size
  obtain ⟨wA, hwA⟩ : ∃ x, (w.alloc (.cells #[.slice av cs.length cv] 27)).alloc (.cells #[.slice none 0 0] 27) = x := ⟨_, rfl⟩
  rw [hwA] at e0 b3 g1 hvA
  have hsA : Hid (wA.heap.size = w.heap.size + 1 + 1) := by show _ = _; rw [← hwA]; simp
  have hlo : w.heap.size + 1 < wA.heap.size := by rw [hsA.out]; omega
  have HE := hid hE
  clear b1 b2 hv hE
  go_enter Try.func58, Try.ntmps58
  go_wp2_with fail
  refine (c_iEngineValid _ cs _ hvA).mono ?_
  rw [HE.out]
  rintro e w1 ⟨rfl, c⟩
  have s1 := c.size
  replace e0 := (c.cell (p := ⟨w.heap.size, 0, none⟩) (show w.heap.size < _ by omega)).trans e0
  replace g1 := (c.block (w.heap.size + 1) hlo).trans g1
  replace b3 := b3.trans (c.mono b3.size)
  replace hvA := (hvA.below c (Nat.le_refl _)).up s1
  clear c
  go_wp2_with fail
  refine (c_turnedOnce _ cs _ HE.out hvA).mono ?_
  rintro e w2 ⟨g, cap, rfl, r2, c⟩
  have s2 := c.size
  replace g1 := (c.block (w.heap.size + 1) (by omega)).trans g1
  replace b3 := b3.trans (c.mono b3.size)
  have z1 := row_cell g1 0
  have f1 := row_free g1 0
  have HF := hid (row_set g1 0 (.slice (some ⟨g, 0, none⟩) (tuN cs).length cap))
  have hgl := r2.lt
  have r3 := r2.cong (w' := w2.setCell ⟨w.heap.size + 1, 0, none⟩ (.slice (some ⟨g, 0, none⟩) (tuN cs).length cap)) (hi' := (w2.setCell ⟨w.heap.size + 1, 0, none⟩ (.slice (some ⟨g, 0, none⟩) (tuN cs).length cap)).heap.size) (Below.heap_setCell w2 ⟨w.heap.size + 1, 0, none⟩ _ g (show g ≠ w.heap.size + 1 by omega)) (by simp)
  have b5 := b3.setCell (p := ⟨w.heap.size + 1, 0, none⟩) (show w.heap.size ≤ w.heap.size + 1 by omega) (.slice (some ⟨g, 0, none⟩) (tuN cs).length cap)
  have HR3 := hid (r3.down (lo' := w.heap.size) (by omega))
  clear c r2 r3 g1 hvA e0
  go_wp2
  (try simp only [Exit.inBlock, Exit.then])
  refine bodyPost_engB rfl rfl (by rfl) (by rfl) HF.out ?_
  exact ⟨g, cap, rfl, HR3.out, b5⟩
/-- The results of an engine. -/
def plR (cs : List ByteArray) (i : Nat) : Int := sgN (tC (tuK cs i) 0)
theorem plR_bd {cs : List ByteArray} (h : EGV cs = true) (i : Nat) : -1000000000000 ≤ plR cs i ∧ plR cs i ≤ 1000000000000 := by
  have h1 := EGV_iff.1 (EGV_tuK h i)
  exact sgN_bd (h1.2 0 (by omega)).1
set_option maxHeartbeats 1600000 in
theorem c_resultsOf (v : Value) (cs : List ByteArray) (n : Nat) (w : World) (hE : EGV cs = true) (hn : n ≤ 60) (hv : IsT w w.heap.size v cs) :
    Calls Try.prog 57 #[.agg #[v], .int .i64 n, .func (.func 58) #[] #[]] w (RetRowB w ((List.range n).map (plR cs)) true) := by
  obtain ⟨av, cv, hav⟩ : ∃ a cap, v = .slice a cs.length cap := ⟨_, _, hv.choose_spec.choose_spec.1⟩
  subst hav
  have g0 := eng_alloc w (.slice av cs.length cv) 27
  have b1 := RetRow.e1 w (.cells #[.slice av cs.length cv] 27)
  have hv1 := (hv.below b1 (Nat.le_refl _)).up b1.size
  obtain ⟨wA, hwA⟩ : ∃ x, w.alloc (.cells #[.slice av cs.length cv] 27) = x := ⟨_, rfl⟩
  rw [hwA] at g0 b1 hv1
  obtain ⟨gE, hgE⟩ : ∃ x, w.heap.size = x := ⟨_, rfl⟩
  have hwE : w.heap.size ≤ gE := by omega
  have hEw : gE ≤ w.heap.size := by omega
  rw [hgE] at g0
  have hEl := (Array.getElem?_eq_some_iff.1 g0).1
  have HE := hid hE
  have HEK := hid (EGV_tuK hE)
  have HLK := hid (tuK_len cs)
  have HRB := hid (plR_bd hE)
  obtain ⟨⟨n1, n7⟩, -⟩ := EGV_iff.1 hE
  have hmk := mk_ints Try.underlying36 Try.infoInt n (by omega)
  have HM := made_zero n
  generalize madeCells #[Value.int .i64 0] n = mc at *
  have HM' := hid HM
  have e0 := row_cell g0 0
  have HG0 := hid g0
  have t1 : ¬ (n : Int) < 0 := by omega
  have t2 : ¬ (n : Int) > 60 := by omega
  clear hE hv HM
  go_enter Try.func57, Try.ntmps57
  go_wp2_with fail
  (try clear hwA)
  (try clear hgE)
  refine (c_iEngineValid _ cs _ hv1).mono ?_
  rw [HE.out]
  rintro e w1 ⟨rfl, c⟩
  have s1 := c.size
  have HG1 := hid ((c.block gE hEl).trans HG0.out)
  have b2 := b1.trans (c.mono b1.size)
  have hv2 := (hv1.below c (Nat.le_refl _)).up s1
  have b3 := b2.alloc b2.size (.cells mc 3)
  have hB0 : Blk (w1.alloc (.cells mc 3)) w1.heap.size (List.replicate n 0) := Blk.new HM'.out
  have hv3 := hv2.alloc (.cells mc 3) (Nat.le_refl _)
  have HG2 := hid ((Below.heap_alloc w1 (.cells mc 3) gE (by omega)).trans HG1.out)
  have hv4 := hv3.up (show w1.heap.size ≤ (w1.alloc (.cells mc 3)).heap.size by simp)
  have HV4 := hid hv4
  clear c hv1 hv2 hv3 hv4 b1 b2 e0 HG0 HG1
  obtain ⟨gR, hgR⟩ : ∃ x, w1.heap.size = x := ⟨_, rfl⟩
  have hRE : gE < gR := by omega
  have hwR : w.heap.size ≤ gR := by omega
  rw [hgR] at hB0
  go_wp2
  clear hgR
  go_loopw [25] (fun i wr => ∃ (j : Nat) (a : Option Addr) (cap : Nat) (ys : List Int), j ≤ n ∧ i = .int .i64 j ∧ Hid (wr.heap[gE]? = some (.cells #[.slice a cs.length cap] 27 (0, 0))) ∧ Hid (IsT wr wr.heap.size (.slice a cs.length cap) (tuK cs j)) ∧ Blk wr gR ys ∧ Hid (ys.length = n) ∧ Hid (∀ i, i < j → el ys i = plR cs i) ∧ Below w.heap.size w wr) (fun i _ => n - (intOf i).toNat)
  case atStart => exact ⟨0, av, cv, List.replicate n 0, Nat.zero_le _, rfl, HG2.out, HV4.out, hB0, by show _ = _; simp, fun i hi => by omega, b3⟩
  case round =>
    obtain ⟨j, a, cap, ys, hj, rfl, HG, HV, hB, HYL, HYS, hbel⟩ := hrel
    clear hmk hB0 b3 HV4 HG2
    have hbs := hbel.size
    have x0 := row_cell HG.out 0
    by_cases hlt : j < n
    · have q0 : (0 : Int) ≤ (j : Int) := by omega
      have q1 : (j : Int) < n := by omega
      have HED := hid (HEK.out j)
      have HLD := hid (HLK.out j)
      have HTK := hid (show tuK cs (j + 1) = tuN (tuK cs j) from rfl)
      have HPJ := hid (show sgN (tC (tuK cs j) 0) = plR cs j from rfl)
      obtain ⟨ds, hds⟩ : ∃ ds, tuK cs j = ds := ⟨_, rfl⟩
      rw [hds] at HED HLD HTK HPJ HV
      clear hds
      have HCV := hid ((EGV_iff.1 HED.out).2 0 (by rw [HLD.out]; omega)).1
      have HLN := hid ((tuN_len ds).trans HLD.out)
      have hdl : 0 < ds.length := by rw [HLD.out]; omega
      obtain ⟨a', cap', hva, -, hcc⟩ := HV.out
      simp only [Value.slice.injEq] at hva
      obtain ⟨rfl, -, rfl⟩ := hva
      obtain ⟨b, o, rfl, hbl, c0, -⟩ := hcc 0 hdl
      rw [Nat.add_zero] at c0
      have n2 : (0 : Int) < cs.length := by omega
      have n3 : 0 < cs.length := by omega
      clear hcc
      go_wp2_with fail
      refine (c_signed (tC ds 0) HCV.out _).mono ?_
      rintro e wx ⟨rfl, rfl⟩
      have cR := hB.cell j (by rw [HYL.out]; exact hlt)
      have fR := hB.free j
      have hB5 := hB.set j (sgN (tC ds 0))
      have hV5 := HV.out.setNS (j := j) (u := .int .i64 (sgN (tC ds 0))) hB.ns
      have HG5 := hid ((Below.heap_setCell wr ⟨gR, j, none⟩ (.int .i64 (sgN (tC ds 0))) gE (show gE ≠ gR by omega)).trans HG.out)
      have b5 := hbel.setCell (p := ⟨gR, j, none⟩) hwR (.int .i64 (sgN (tC ds 0)))
      have s5 : wr.heap.size ≤ (wr.setCell ⟨gR, j, none⟩ (.int .i64 (sgN (tC ds 0)))).heap.size := by simp
      obtain ⟨w5, hw5⟩ : ∃ x, wr.setCell ⟨gR, j, none⟩ (.int .i64 (sgN (tC ds 0))) = x := ⟨_, rfl⟩
      rw [hw5] at hB5 hV5 HG5 b5 s5
      have x5 := row_cell HG5.out 0
      clear x0 c0
      go_wp2_with fail
      refine (c_iTurnWhole _ ds _ HED.out (hV5.up s5)).mono ?_
      rintro e w6 ⟨g6, p6, rfl, r6, c6⟩
      have hgl := (Array.getElem?_eq_some_iff.1 HG5.out).1
      have HG6 := hid ((c6.block gE hgl).trans HG5.out)
      have hB6 := hB5.below c6 hB5.lt
      have b6 := b5.trans (c6.mono b5.size)
      have x6 := row_cell HG6.out 0
      have f6 := row_free HG6.out 0
      have HR6 := hid r6
      have hg6 := r6.lt
      clear hw5 cR fR hB5 hV5 b5 r6 c6 x5 HG5
      go_wp2
      go_roundw
      case rel =>
        refine ⟨j + 1, some ⟨g6, 0, none⟩, p6, ys.set j (sgN (tC ds 0)), by omega, by go_num, ?_, ?_, ?_, by show _ = _; rw [List.length_set]; exact HYL.out, ?_, b6.setCell (p := ⟨gE, 0, none⟩) hwE _⟩
        · have h := row_set HG6.out 0 (.slice (some ⟨g6, 0, none⟩) (tuN ds).length p6)
          show _ = _
          rw [HLN.out] at h ⊢
          exact h
        · have h := (HR6.out.isT.setNS (g := gE) (j := 0) (u := .slice (some ⟨g6, 0, none⟩) (tuN ds).length p6) (eng_ns HG6.out)).up (B' := (w6.setCell ⟨gE, 0, none⟩ (.slice (some ⟨g6, 0, none⟩) (tuN ds).length p6)).heap.size) (by simp)
          show IsT _ _ _ _
          rw [HTK.out]
          rw [HLN.out] at h ⊢
          exact h
        · exact (Below.heap_setCell w6 ⟨gE, 0, none⟩ _ gR (show gR ≠ gE by omega)).trans hB6
        · intro i hi
          by_cases e : i = j
          · subst e; rw [el_set_same (by rw [HYL.out]; exact hlt)]; exact HPJ.out
          · rw [el_set_other (by omega)]; exact HYS.out i (by omega)
      case measure => simp [intOf]; omega
    · obtain rfl : j = n := by omega
      have HYE := hid (show ys = (List.range j).map (plR cs) from list_ext (by rw [HYL.out]; simp) (fun i hi => by rw [HYL.out] at hi; rw [HYS.out i hi, el_map _ _ _ (by simpa using hi)]; simp))
      have HBR := hid (show Rw wr w.heap.size wr.heap.size (.slice (some ⟨gR, 0, none⟩) j j) ((List.range j).map (plR cs)) by
        have h := hB.rw hwR hB.lt (by rw [HYL.out]; unfold maxLen; omega) (R64.of_el fun i hi => by rw [HYL.out] at hi; rw [HYS.out i hi]; have := HRB.out i; omega)
        rw [HYL.out] at h
        rw [← HYE.out]; exact h)
      go_wp2
      go_ret2
      exact ⟨_, rfl, HBR.out, hbel⟩
theorem c_iRunEngine (v : Value) (cs : List ByteArray) (n : Nat) (w : World) (hE : EGV cs = true) (hn : n ≤ 60) (hv : IsT w w.heap.size v cs) :
    Calls Try.prog 24 #[.agg #[v], .int .i64 n] w (RetRowB w ((List.range n).map (plR cs)) true) := by
  obtain ⟨av, cv, hav⟩ : ∃ a cap, v = .slice a cs.length cap := ⟨_, _, hv.choose_spec.choose_spec.1⟩
  subst hav
  have e0 := eng_cell w (.slice av cs.length cv) 27
  have b1 := RetRow.e1 w (.cells #[.slice av cs.length cv] 27)
  have hv1 := (hv.below b1 (Nat.le_refl _)).up b1.size
  obtain ⟨wA, hwA⟩ : ∃ x, w.alloc (.cells #[.slice av cs.length cv] 27) = x := ⟨_, rfl⟩
  rw [hwA] at e0 b1 hv1
  have s1 := b1.size
  go_enter Try.func24, Try.ntmps24
  go_wp2_with fail
  refine (c_resultsOf _ cs n _ hE hn hv1).mono ?_
  rintro e w2 ⟨u, rfl, r2, c⟩
  go_wp2
  go_ret2
  exact ⟨_, rfl, r2.down s1, b1.trans (c.mono s1)⟩
end Go.Proofs.Ytkaanlldjkflaaa
