/- What is proved here: engines after many turns, engines that are drawn for ChangeWheels, and the comparison of two engines. -/
import Derived.Test.YtkaanlldjkflaaaDrE4
set_option linter.unusedVariables false
set_option linter.unusedSimpArgs false
set_option maxRecDepth 100000
namespace Go.Proofs.Ytkaanlldjkflaaa
open Go.RowKit

/-- Columns after n turns. -/
def tuK (cs : List ByteArray) : Nat → List ByteArray
  | 0 => cs
  | n + 1 => tuN (tuK cs n)
theorem tuK_len (cs : List ByteArray) : ∀ n, (tuK cs n).length = cs.length := by
  intro n
  induction n with
  | zero => rfl
  | succ n ih => rw [tuK, tuN_len, ih]
theorem EGV_tuK {cs : List ByteArray} (h : EGV cs = true) : ∀ n, EGV (tuK cs n) = true := by
  intro n
  induction n with
  | zero => exact h
  | succ n ih => rw [tuK]; exact EGV_tuN ih
theorem bodyPost_engB {fn : Func} {p u : Tmp} (h : fn.results = #[.cell p 27, .tmp u]) {a : Act} {w' : World} {g : Nat} {v ok : Value} {Q : Ending → World → Prop}
    (hd : a.defers = []) (hp : a.tmps.getD p undef = .pointer (some ⟨g, 0, none⟩)) (hu : a.tmps.getD u undef = ok) (hg : w'.heap[g]? = some (.cells #[v] 27 (0, 0)))
    (hq : Q (.returned (.tuple #[.agg #[v], ok])) w') : bodyPost Try.prog fn Q .ret a w' := by
  refine bodyPost_ret (v := .tuple #[.agg #[v], ok]) ?_ hd hq
  rw [results_cell_tmp h, hp, hu]
  simp [asAddr, Result.andThen, run_loadVar_row (P := Try.prog) w' g 27 27 #[v] (0, 0) _ hg Try.underlying27 rfl Try.infoEng]
theorem c_turnedMany (v : Value) (cs : List ByteArray) (n : Nat) (w : World) (hE : EGV cs = true) (hn : n ≤ 1000) (hv : IsT w w.heap.size v cs) :
    Calls Try.prog 73 #[v, .int .i64 n] w (RetT' w (tuK cs n)) := by
  obtain ⟨⟨n1, n7⟩, -⟩ := EGV_iff.1 hE
  have HEK := hid (EGV_tuK hE)
  have HLK := hid (tuK_len cs)
  go_enter Try.func73, Try.ntmps73
  go_wp2_with fail
  refine (c_CloneT _ cs _ (by omega) (by omega) hv).mono ?_
  rintro e w1 ⟨g1, p1, rfl, r1, b1⟩
  have s1 := b1.size
  clear hv
  go_wp2
  go_loopw [1, 5] (fun x v wr => ∃ (m g cap : Nat), m ≤ n ∧ x = .int .i64 ((n : Int) - m) ∧ v = .slice (some ⟨g, 0, none⟩) cs.length cap ∧ RwT wr w.heap.size wr.heap.size (.slice (some ⟨g, 0, none⟩) cs.length cap) (tuK cs m) ∧ Below w.heap.size w wr) (fun x _ _ => (intOf x).toNat)
  case atStart => exact ⟨0, g1, p1, Nat.zero_le _, by simp, rfl, r1, b1⟩
  case round =>
    obtain ⟨m, g, cap, hm, rfl, rfl, hr, hb⟩ := hrel
    have hbs := hb.size
    clear r1 b1
    by_cases hlt : m < n
    · have hp : (n : Int) - m > 0 := by omega
      have HTK := hid (show tuK cs (m + 1) = tuN (tuK cs m) from rfl)
      have HL := hid (HLK.out m)
      have HL2 := hid ((tuN_len (tuK cs m)).trans (HLK.out m))
      obtain ⟨ds, hds⟩ : ∃ ds, tuK cs m = ds := ⟨_, rfl⟩
      have HED := hid (HEK.out m)
      rw [hds] at hr HTK HL HL2 HED
      clear hds
      go_wp2_with fail
      refine (c_turnedOnce _ ds _ HED.out hr.isT).mono ?_
      rintro e w2 ⟨g2, p2, rfl, r2, b2⟩
      have HR2 := hid r2
      have hb2 := hb.trans (b2.mono hbs)
      clear r2 b2
      go_wp2
      go_roundw
      case rel =>
        refine ⟨m + 1, g2, p2, by omega, by go_num, by rw [HL2.out], ?_, hb2⟩
        have h := HR2.out
        rw [HL2.out] at h
        rw [HTK.out]
        exact h.down hbs
      case measure => simp [intOf]; omega
    · obtain rfl : m = n := by omega
      have hp : ¬ (m : Int) - m > 0 := by omega
      have hp2 : ¬ (m : Int) - m < 0 := by omega
      have HL := hid (HLK.out m)
      have HR := hid hr
      go_wp2
      go_loopw [1, 5] (fun x v wx => x = .int .i64 0 ∧ v = .slice (some ⟨g, 0, none⟩) cs.length cap ∧ wr = wx) (fun _ _ _ => 0)
      case atStart => exact ⟨by simp, rfl, rfl⟩
      case round =>
        obtain ⟨rfl, rfl, rfl⟩ := hrel
        go_wp2
        go_ret
        exact ⟨g, cap, by rw [HL.out]; rfl, by have h := HR.out; rw [HL.out]; exact h, hb⟩
/-- What is left by a call that hands back an engine and a bool. -/
def RetEB (w : World) (cs : List ByteArray) (ok : Bool) (e : Ending) (w' : World) : Prop := ∃ g cap, e = .returned (.tuple #[.agg #[.slice (some ⟨g, 0, none⟩) cs.length cap], .bool ok]) ∧ RwT w' w.heap.size w'.heap.size (.slice (some ⟨g, 0, none⟩) cs.length cap) cs ∧ Below w.heap.size w w'
theorem c_iTurnMany (v : Value) (cs : List ByteArray) (n : Nat) (w : World) (hE : EGV cs = true) (hn : n ≤ 300) (hv : IsT w w.heap.size v cs) :
    Calls Try.prog 36 #[.agg #[v], .int .i64 n] w (RetEB w (tuK cs n) true) := by
  obtain ⟨av, cv, hav⟩ : ∃ a cap, v = .slice a cs.length cap := ⟨_, _, hv.choose_spec.choose_spec.1⟩
  subst hav
  have hs1 : (w.alloc (.cells #[.slice av cs.length cv] 27)).heap.size = w.heap.size + 1 := by simp
  have e0 := eng_cell w (.slice av cs.length cv) 27
  have b1 := RetRow.e1 w (.cells #[.slice av cs.length cv] 27)
  have b2 := RetRow.e1 (w.alloc (.cells #[.slice av cs.length cv] 27)) (.cells #[.slice none 0 0] 27)
  have g1 := eng_alloc (w.alloc (.cells #[.slice av cs.length cv] 27)) (.slice none 0 0) 27
  rw [hs1] at g1 b2
  have b3 := b1.trans (b2.mono (by omega))
  replace e0 := (b2.cell (p := ⟨w.heap.size, 0, none⟩) (show w.heap.size < w.heap.size + 1 by omega)).trans e0
  have hvA := (hv.below b3 (Nat.le_refl _)).up b3.size
  obtain ⟨wA, hwA⟩ : ∃ x, (w.alloc (.cells #[.slice av cs.length cv] 27)).alloc (.cells #[.slice none 0 0] 27) = x := ⟨_, rfl⟩
  rw [hwA] at e0 b3 g1 hvA
  have hsA : Hid (wA.heap.size = w.heap.size + 1 + 1) := by show _ = _; rw [← hwA]; simp
  have hlo : w.heap.size + 1 < wA.heap.size := by rw [hsA.out]; omega
  have HE := hid hE
  have HI := hid (show inB (n : Int) (-300) 300 = true from inB_yes (by omega) (by omega))
  clear b1 b2 hv hE
  go_enter Try.func36, Try.ntmps36
  go_wp2_with fail
  refine (c_iEngineValid _ cs _ hvA).mono ?_
  rw [HE.out]
  rintro e w1 ⟨rfl, c⟩
  have s1 := c.size
  replace e0 := (c.cell (p := ⟨w.heap.size, 0, none⟩) (show w.heap.size < _ by omega)).trans e0
  replace g1 := (c.block (w.heap.size + 1) hlo).trans g1
  replace b3 := b3.trans (c.mono b3.size)
  replace hvA := (hvA.below c (Nat.le_refl _)).up s1
  clear c
  go_wp2_with fail
  refine (c_within _ _ _ (by omega) (by omega)).mono ?_
  rw [HI.out]
  rintro e wx ⟨rfl, rfl⟩
  go_wp2_with fail
  refine (c_turnedMany _ cs n _ HE.out (by omega) hvA).mono ?_
  rintro e w2 ⟨g, cap, rfl, r2, c⟩
  have s2 := c.size
  replace g1 := (c.block (w.heap.size + 1) (by omega)).trans g1
  replace b3 := b3.trans (c.mono b3.size)
  have z1 := row_cell g1 0
  have f1 := row_free g1 0
  have HF := hid (row_set g1 0 (.slice (some ⟨g, 0, none⟩) (tuK cs n).length cap))
  have hgl := r2.lt
  have r3 := r2.cong (w' := w2.setCell ⟨w.heap.size + 1, 0, none⟩ (.slice (some ⟨g, 0, none⟩) (tuK cs n).length cap)) (hi' := (w2.setCell ⟨w.heap.size + 1, 0, none⟩ (.slice (some ⟨g, 0, none⟩) (tuK cs n).length cap)).heap.size) (Below.heap_setCell w2 ⟨w.heap.size + 1, 0, none⟩ _ g (show g ≠ w.heap.size + 1 by omega)) (by simp)
  have b5 := b3.setCell (p := ⟨w.heap.size + 1, 0, none⟩) (show w.heap.size ≤ w.heap.size + 1 by omega) (.slice (some ⟨g, 0, none⟩) (tuK cs n).length cap)
  have HR3 := hid (r3.down (lo' := w.heap.size) (by omega))
  clear c r2 r3 g1 hvA e0
  go_wp2
  (try simp only [Exit.inBlock, Exit.then])
  refine bodyPost_engB rfl rfl (by rfl) (by rfl) HF.out ?_
  exact ⟨g, cap, rfl, HR3.out, b5⟩
set_option maxHeartbeats 1600000 in
theorem c_deTurned (v : Value) (cs : List ByteArray) (n : Nat) (w : World) (hE : EGV cs = true) (hn : n ≤ 300) (hv : IsT w w.heap.size v cs) :
    Calls Try.prog 14 #[.agg #[v], .int .i64 n] w (RetE' w (tuK cs n)) := by
  obtain ⟨av, cv, hav⟩ : ∃ a cap, v = .slice a cs.length cap := ⟨_, _, hv.choose_spec.choose_spec.1⟩
  subst hav
  have hs1 : (w.alloc (.cells #[.slice av cs.length cv] 27)).heap.size = w.heap.size + 1 := by simp
  have e0 := eng_cell w (.slice av cs.length cv) 27
  have b1 := RetRow.e1 w (.cells #[.slice av cs.length cv] 27)
  have b2 := RetRow.e1 (w.alloc (.cells #[.slice av cs.length cv] 27)) (.cells #[.slice none 0 0] 27)
  have g1 := eng_alloc (w.alloc (.cells #[.slice av cs.length cv] 27)) (.slice none 0 0) 27
  rw [hs1] at g1 b2
  have b3 := b1.trans (b2.mono (by omega))
  replace e0 := (b2.cell (p := ⟨w.heap.size, 0, none⟩) (show w.heap.size < w.heap.size + 1 by omega)).trans e0
  have hvA := (hv.below b3 (Nat.le_refl _)).up b3.size
  obtain ⟨wA, hwA⟩ : ∃ x, (w.alloc (.cells #[.slice av cs.length cv] 27)).alloc (.cells #[.slice none 0 0] 27) = x := ⟨_, rfl⟩
  rw [hwA] at e0 b3 g1 hvA
  have hsA : Hid (wA.heap.size = w.heap.size + 1 + 1) := by show _ = _; rw [← hwA]; simp
  have hlo : w.heap.size + 1 < wA.heap.size := by rw [hsA.out]; omega
  clear b1 b2 hv
  go_enter Try.func14, Try.ntmps14
  go_wp2_with fail
  refine (c_iTurnMany _ cs n _ hE hn hvA).mono ?_
  rintro e w1 ⟨g, cap, rfl, r1, c⟩
  have s1 := c.size
  replace g1 := (c.block (w.heap.size + 1) hlo).trans g1
  replace b3 := b3.trans (c.mono b3.size)
  clear c hvA e0
  have bX := RetRow.e1 w1 (.cells #[.slice (some ⟨g, 0, none⟩) (tuK cs n).length cap] 27)
  have x0 := eng_cell w1 (.slice (some ⟨g, 0, none⟩) (tuK cs n).length cap) 27
  have g2 := (bX.block (w.heap.size + 1) (by omega)).trans g1
  have b5 := b3.trans (bX.mono b3.size)
  have r2 := (r1.below bX (Nat.le_refl _)).up bX.size
  obtain ⟨wB, hwB⟩ : ∃ x, w1.alloc (.cells #[.slice (some ⟨g, 0, none⟩) (tuK cs n).length cap] 27) = x := ⟨_, rfl⟩
  rw [hwB] at x0 g2 b5 r2
  have z1 := row_cell g2 0
  have f1 := row_free g2 0
  have HF := hid (row_set g2 0 (.slice (some ⟨g, 0, none⟩) (tuK cs n).length cap))
  have hgl := r2.lt
  have r3 := r2.cong (w' := wB.setCell ⟨w.heap.size + 1, 0, none⟩ (.slice (some ⟨g, 0, none⟩) (tuK cs n).length cap)) (hi' := (wB.setCell ⟨w.heap.size + 1, 0, none⟩ (.slice (some ⟨g, 0, none⟩) (tuK cs n).length cap)).heap.size) (Below.heap_setCell wB ⟨w.heap.size + 1, 0, none⟩ _ g (show g ≠ w.heap.size + 1 by omega)) (by simp)
  have HB5 := hid (b5.setCell (p := ⟨w.heap.size + 1, 0, none⟩) (show w.heap.size ≤ w.heap.size + 1 by omega) (.slice (some ⟨g, 0, none⟩) (tuK cs n).length cap))
  have HR3 := hid (r3.down (lo' := w.heap.size) (by omega))
  clear r2 r3 g1 g2 bX b3 b5 r1
  go_wp2
  (try simp only [Exit.inBlock, Exit.then])
  refine bodyPost_eng rfl rfl (by rfl) HF.out ?_
  exact ⟨g, cap, rfl, HR3.out, HB5.out⟩
theorem str_ne {a b : ByteArray} (h : ¬ a = b) : (a.toList == b.toList) = false := by
  rw [beq_eq_false_iff_ne]
  intro e
  rw [ByteArray.toList_eq, ByteArray.toList_eq] at e
  apply h
  cases a; cases b
  simp only [ByteArray.mk.injEq] at e ⊢
  exact Array.toList_inj.1 e
theorem deSameE (v u : Value) (cs ds : List ByteArray) (w : World) (hv : IsT w w.heap.size v cs) (hu : IsT w w.heap.size u ds) :
    Calls Try.prog 15 #[.agg #[v], .agg #[u]] w fun e w' => e = .returned (.bool (decide (cs = ds))) ∧ Below w.heap.size w w' := by
  have hv0 := hv
  have hu0 := hu
  obtain ⟨av, cv, rfl, hm, hc⟩ := hv
  obtain ⟨au, cu, rfl, hm', hc'⟩ := hu
  unfold maxLen at hm hm'
  have c1 := RetRow.e1 w (.cells #[.slice av cs.length cv] 27)
  have c2 := RetRow.e1 (w.alloc (.cells #[.slice av cs.length cv] 27)) (.cells #[.slice au ds.length cu] 27)
  have hs1 : (w.alloc (.cells #[.slice av cs.length cv] 27)).heap.size = w.heap.size + 1 := by simp
  have e0 := (c2.cell (p := ⟨w.heap.size, 0, none⟩) (show w.heap.size < _ by omega)).trans (eng_cell w (.slice av cs.length cv) 27)
  have e1 := eng_cell (w.alloc (.cells #[.slice av cs.length cv] 27)) (.slice au ds.length cu) 27
  rw [hs1] at e1
  have c3 := c1.trans (c2.mono (by omega))
  have l0 := World.block_lt_of_cell? _ _ e0
  have l1 := World.block_lt_of_cell? _ _ e1
  obtain ⟨wA, hwA⟩ : ∃ x, (w.alloc (.cells #[.slice av cs.length cv] 27)).alloc (.cells #[.slice au ds.length cu] 27) = x := ⟨_, rfl⟩
  rw [hwA] at e0 e1 c3 l0 l1
  have s3 := c3.size
  have HC := hid hc
  have HC' := hid hc'
  clear hc hc' c1 c2 hv0 hu0
  by_cases hl : cs.length = ds.length
  · have HL := hid hl
    have t1 : ((cs.length : Int) != (ds.length : Int)) = false := by rw [hl]; simp
    clear hl
    go_enter Try.func15, Try.ntmps15
    go_wp2
    go_loopw [5] (fun i wr => ∃ j : Nat, j ≤ cs.length ∧ i = .int .i64 j ∧ Hid (∀ k, k < j → tC cs k = tC ds k) ∧ Chg 0 0 wA wr) (fun i _ => cs.length - (intOf i).toNat)
    case atStart => exact ⟨0, Nat.zero_le _, rfl, fun k hk => by omega, Chg.refl _ _ _⟩
    case round =>
      obtain ⟨j, hj, rfl, HA, cr⟩ := hrel
      have cb := cr.below (B := wA.heap.size) (by omega) (Nat.le_refl _)
      have f0 := (cb.cell (p := ⟨w.heap.size, 0, none⟩) l0).trans e0
      have f1 := (cb.cell (p := ⟨w.heap.size + 1, 0, none⟩) l1).trans e1
      by_cases hlt : j < cs.length
      · obtain ⟨b, off, rfl, hb, g0, -⟩ := HC.out j hlt
        obtain ⟨b', off', rfl, hb', d0, -⟩ := HC'.out j (by rw [← HL.out]; exact hlt)
        have g1 := (c3.cell (p := ⟨b, off + j, none⟩) hb).trans g0
        have d1 := (c3.cell (p := ⟨b', off' + j, none⟩) hb').trans d0
        have g2 := (cb.cell (p := ⟨b, off + j, none⟩) (World.block_lt_of_cell? _ _ g1)).trans g1
        have d2 := (cb.cell (p := ⟨b', off' + j, none⟩) (World.block_lt_of_cell? _ _ d1)).trans d1
        have q0 : 0 ≤ (j : Int) := by omega
        have q1 : (j : Int) < cs.length := by omega
        have q2 : (j : Int) < ds.length := by have := HL.out; omega
        clear g0 d0 g1 d1
        by_cases he : tC cs j = tC ds j
        · have HE := hid he
          rw [← he] at d2
          clear he
          go_wp2_with fail
          go_quiet (fail)
          go_wp2
          go_roundw
          case rel =>
            refine ⟨j + 1, by omega, by go_num, fun k hk => ?_, cr.drewN _⟩
            by_cases e : k = j
            · subst e; exact HE.out
            · exact HA.out k (by omega)
          case measure => simp [intOf]; omega
        · have HN := hid (show decide (cs = ds) = false by simp; rintro rfl; exact he rfl)
          have hb3 : ((tC cs j).toList == (tC ds j).toList) = false := str_ne he
          clear he
          go_wp2_with fail
          go_quiet (fail)
          go_wp2
          go_ret
          exact ⟨by rw [HN.out]; rfl, c3.trans ((bel_drewN cb _).mono s3)⟩
      · obtain rfl : j = cs.length := by omega
        have HY := hid (show decide (cs = ds) = true by
          simp only [decide_eq_true_eq]
          apply List.ext_getElem HL.out
          intro i h1 h2
          have := HA.out i h1
          rw [tC_lt h1, tC_lt h2] at this
          exact this)
        go_wp2
        go_ret
        exact ⟨by rw [HY.out]; rfl, c3.trans (cb.mono s3)⟩
  · have HN := hid (show decide (cs = ds) = false by simp; rintro rfl; exact hl rfl)
    have t1 : ((cs.length : Int) != (ds.length : Int)) = true := by simp; omega
    clear hl
    go_enter Try.func15, Try.ntmps15
    go_wp2
    go_ret
    exact ⟨by rw [HN.out]; rfl, c3⟩
end Go.Proofs.Ytkaanlldjkflaaa
